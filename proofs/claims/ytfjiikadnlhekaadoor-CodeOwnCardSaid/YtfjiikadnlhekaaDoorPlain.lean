/-
  What is proved here: the plain law of a program's bytes: what 'encB' lays, 'rBody' reads, a front of it is cut, and whatever 'rBody' reads 'encB' has laid. Conditions: the program may be written.
-/
import Derived.Test.YtfjiikadnlhekaaDoorSpec
namespace Go.Proofs.YtfjiikadnlhekaaDoor

/-- A reading takes just s off and tells a; a front of s is cut. -/
def Reads {α : Type} (N : Nat) (m : Rd α) (s : List UInt8) (a : α) : Prop := (∀ t, m (s ++ t) = .ok (a, t)) ∧ ∀ s' t, s = s' ++ t → t ≠ [] → m s' = .error (81, N)

theorem reads_told {α : Type} {N : Nat} (a : α) : Reads N (told a) [] a := ⟨fun _ => rfl, fun s' t h ht => by
  rw [List.nil_eq, List.append_eq_nil_iff] at h
  exact absurd h.2 ht⟩
theorem reads_then {α β : Type} {N : Nat} {m : Rd α} {f : α → Rd β} {s s2 : List UInt8} {a : α} {b : β} (h1 : Reads N m s a) (h2 : Reads N (f a) s2 b) : Reads N (andThen m f) (s ++ s2) b := by
  refine ⟨fun t => ?_, fun s' t h ht => ?_⟩
  · unfold andThen
    rw [List.append_assoc, h1.1]
    exact h2.1 t
  · rcases List.append_eq_append_iff.1 h with ⟨x, h3, h4⟩ | ⟨x, h3, h4⟩
    · subst h3
      unfold andThen
      rw [h1.1]
      exact h2.2 x t h4 ht
    · by_cases hc : x = []
      · subst hc
        rw [List.append_nil] at h3
        rw [List.nil_append] at h4
        subst h3
        have := h1.1 []
        rw [List.append_nil] at this
        unfold andThen
        rw [this]
        exact h2.2 [] t (by rw [List.nil_append, h4]) ht
      · unfold andThen
        rw [h1.2 s' x h3 hc]
theorem reads_last {α β : Type} {N : Nat} {m : Rd α} {a : α} {g : α → β} {s : List UInt8} (h1 : Reads N m s a) : Reads N (andThen m fun a => told (g a)) s (g a) := by
  have h := reads_then (f := fun a => told (g a)) h1 (reads_told (g a))
  rwa [List.append_nil] at h
theorem reads_placed {α : Type} {N : Nat} {f : Nat → Rd α} {s : List UInt8} {a : α} (h : ∀ k, Reads N (f k) s a) : Reads N (placed N f) s a := ⟨fun t => (h _).1 t, fun s' t h1 h2 => (h _).2 s' t h1 h2⟩
theorem reads_byte (N : Nat) (c : UInt8) : Reads N (rByte N) [c] c := by
  refine ⟨fun t => rfl, fun s' t h ht => ?_⟩
  cases s' with
  | nil => rfl
  | cons d r =>
    have hl := congrArg List.length h
    have : 0 < t.length := List.length_pos_iff.2 ht
    rw [List.length_append] at hl
    simp only [List.length_cons, List.length_nil] at hl
    omega
theorem ofNat_toNat {u : Nat} (h : u < 256) : (UInt8.ofNat u).toNat = u := by simp; omega

theorem reads_numF (N k : Nat) : ∀ (g f i u u0 : Nat), u < 128 ^ (g + 1) → u < 128 ^ f → 1 ≤ f → (0 < i → 0 < u) → Reads N (rNumF N k f i u0) (numF g u) (u0 + u * 128 ^ i)
  | g, 0, _, _, _, _, _, h, _ => by omega
  | g, f + 1, i, u, u0, hg, hf, _, hi => by
    have small : u < 128 → Reads N (rNumF N k (f + 1) i u0) [UInt8.ofNat u] (u0 + u * 128 ^ i) := fun h => by
      have e : (UInt8.ofNat u).toNat = u := ofNat_toNat (by omega)
      have h2 : Reads N ((fun c : UInt8 => if c.toNat < 128 then (if c.toNat = 0 ∧ 0 < i then flaw 82 k else told (u0 + c.toNat * 128 ^ i)) else rNumF N k f (i + 1) (u0 + (c.toNat % 128) * 128 ^ i)) (UInt8.ofNat u)) [] (u0 + u * 128 ^ i) := by
        simp only [e, h, if_true]
        rw [if_neg (by intro hh; have := hi hh.2; omega)]
        exact reads_told _
      exact reads_then (reads_byte N _) h2
    cases g with
    | zero => exact small (by simpa using hg)
    | succ g =>
      unfold numF
      by_cases h : u < 128
      · rw [if_pos h]; exact small h
      · rw [if_neg h]
        have e : (UInt8.ofNat (u % 128 + 128)).toNat = u % 128 + 128 := ofNat_toNat (by omega)
        have hf1 : 1 ≤ f := by
          rcases Nat.eq_zero_or_pos f with h0 | h0
          · subst h0; simp at hf; omega
          · exact h0
        have hd : u / 128 < 128 ^ f := Nat.div_lt_of_lt_mul (by rw [Nat.pow_succ] at hf; omega)
        have hg2 : u / 128 < 128 ^ (g + 1) := Nat.div_lt_of_lt_mul (by rw [Nat.pow_succ] at hg; omega)
        have ih := reads_numF N k g f (i + 1) (u / 128) (u0 + (u % 128) * 128 ^ i) hg2 hd hf1 (fun _ => by omega)
        have h2 : Reads N ((fun c : UInt8 => if c.toNat < 128 then (if c.toNat = 0 ∧ 0 < i then flaw 82 k else told (u0 + c.toNat * 128 ^ i)) else rNumF N k f (i + 1) (u0 + (c.toNat % 128) * 128 ^ i)) (UInt8.ofNat (u % 128 + 128))) (numF g (u / 128)) (u0 + u * 128 ^ i) := by
          simp only [e]
          rw [if_neg (by omega)]
          have e2 : u0 + (u % 128 + 128) % 128 * 128 ^ i = u0 + u % 128 * 128 ^ i := by
            have : (u % 128 + 128) % 128 = u % 128 := by omega
            rw [this]
          rw [e2]
          have e3 : u0 + u % 128 * 128 ^ i + u / 128 * 128 ^ (i + 1) = u0 + u * 128 ^ i := by
            have h3 : u * 128 ^ i = (u % 128 + 128 * (u / 128)) * 128 ^ i := by rw [Nat.mod_add_div]
            rw [h3, Nat.add_mul, Nat.pow_succ, Nat.add_assoc]
            congr 2
            rw [Nat.mul_comm (128 ^ i) 128, ← Nat.mul_assoc, Nat.mul_comm 128 (u / 128)]
          rw [← e3]
          exact ih
        exact reads_then (reads_byte N _) h2

theorem reads_num (N u : Nat) (h : u < 9223372036854775808) : Reads N (rNum N) (num u) u := by
  refine reads_placed fun k => ?_
  have := reads_numF N k 10 9 0 u 0 (by have : (128 : Nat) ^ 11 = 151115727451828646838272 := by decide
                                        omega) (by have : (128 : Nat) ^ 9 = 9223372036854775808 := by decide
                                                   omega) (by decide) (by omega)
  simpa [num] using this

theorem reads_reps {α : Type} {N : Nat} (m : Rd α) (enc : α → List UInt8) : ∀ (l acc : List α), (∀ a ∈ l, Reads N m (enc a) a) → Reads N (rReps m l.length acc) (l.flatMap enc) (acc ++ l)
  | [], acc, _ => by rw [List.append_nil]; exact reads_told acc
  | a :: l, acc, h => by
    have ih := reads_reps m enc l (acc ++ [a]) (fun b hb => h b (List.mem_cons_of_mem _ hb))
    rw [List.append_assoc] at ih
    exact reads_then (f := fun a => rReps m l.length (acc ++ [a])) (h a (List.mem_cons_self ..)) ih

theorem reads_flag (N : Nat) (b : Bool) : Reads N (rFlag N) [flagB b] b := by
  refine reads_placed fun k => ?_
  have h2 : Reads N ((fun c : UInt8 => if 1 < c.toNat then flaw 82 k else told (c.toNat == 1)) (flagB b)) [] b := by cases b <;> exact reads_told _
  exact reads_then (reads_byte N _) h2
theorem unsgn_sgn (n : Int) : unsgn (sgn n) = n := by
  unfold unsgn sgn
  by_cases h : n < 0
  · rw [if_pos h, if_pos (by omega)]; omega
  · rw [if_neg h, if_neg (by omega)]; omega
theorem sgn_unsgn (u : Nat) : sgn (unsgn u) = u := by
  unfold unsgn
  split
  · unfold sgn; rw [if_pos (by omega)]; omega
  · unfold sgn; rw [if_neg (by omega)]; omega
theorem sgn_lt {n : Int} (h : -1073741824 ≤ n ∧ n ≤ 1073741824) : sgn n < 9223372036854775808 := by unfold sgn; split <;> omega
theorem reads_int (N : Nat) (n : Int) (h : -1073741824 ≤ n ∧ n ≤ 1073741824) : Reads N (rInt N) (num (sgn n)) n := by
  have := reads_last (g := unsgn) (reads_num N (sgn n) (sgn_lt h))
  rwa [unsgn_sgn] at this
def nearI (n : Int) : Prop := -1073741824 ≤ n ∧ n ≤ 1073741824
theorem reads_var (N : Nat) (v : Var3) (h0 : nearI v.1) (h1 : nearI v.2.1) (h2 : nearI v.2.2) : Reads N (rVar N) (encVar v) v :=
  reads_then (reads_int N v.1 h0) (reads_then (f := fun b => andThen (rInt N) fun c => told (v.1, b, c)) (reads_int N v.2.1 h1) (reads_last (g := fun c => (v.1, v.2.1, c)) (reads_int N v.2.2 h2)))
theorem reads_tag (N : Nat) (t : Int) (h : 0 ≤ t ∧ t ≤ 1073741824) : Reads N (rTag N) (num t.toNat) t := by
  have := reads_last (g := fun u : Nat => (u : Int)) (reads_num N t.toNat (by omega))
  rwa [show ((t.toNat : Nat) : Int) = t by omega] at this
theorem reads_on (N : Nat) (t : Int) (h : -1 ≤ t ∧ t ≤ 1073741824) : Reads N (rOn N) (num (t + 1).toNat) t := by
  have := reads_last (g := fun u : Nat => (u : Int) - 1) (reads_num N (t + 1).toNat (by omega))
  rwa [show (((t + 1).toNat : Nat) : Int) - 1 = t by omega] at this
theorem reads_many (N most u : Nat) (h : u ≤ most) (h2 : u < 9223372036854775808) : Reads N (rMany N most) (num u) u := by
  refine reads_placed fun k => ?_
  have h3 : Reads N ((fun u : Nat => if most < u then flaw 85 k else told u) u) [] u := by
    simp only
    rw [if_neg (by omega)]
    exact reads_told u
  have := reads_then (f := fun u : Nat => if most < u then flaw 85 k else told u) (reads_num N u h2) h3
  rwa [List.append_nil] at this

/-- An operand that may stand there. -/
def okOp (x : UInt8 × Int) : Prop := if x.1.toNat = 110 then nearI x.2 else 0 ≤ x.2 ∧ x.2 ≤ 1073741824
theorem reads_opnd (N : Nat) (x : UInt8 × Int) (h : okOp x) : Reads N (rOpnd N x.1) (encOpnd x) x.2 := by
  unfold okOp at h
  unfold rOpnd encOpnd
  by_cases hc : x.1.toNat = 110
  · rw [if_pos hc] at h ⊢
    rw [if_pos hc]
    exact reads_int N _ h
  · rw [if_neg hc] at h ⊢
    rw [if_neg hc]
    exact reads_tag N _ h
theorem reads_opnds (N : Nat) : ∀ (ks : List UInt8) (ns acc : List Int), ks.length ≤ ns.length → (∀ x ∈ ks.zip ns, okOp x) → Reads N (rOpnds N ks acc) ((ks.zip ns).flatMap encOpnd) (acc ++ ns.take ks.length)
  | [], ns, acc, _, _ => by
    simp only [List.zip_nil_left, List.flatMap_nil, List.length_nil, List.take_zero, List.append_nil]
    exact reads_told acc
  | c :: ks, [], acc, h, _ => by simp at h
  | c :: ks, n :: ns, acc, h, hx => by
    have ih := reads_opnds N ks ns (acc ++ [n]) (by simpa using h) (fun x hm => hx x (by simp [hm]))
    rw [List.append_assoc] at ih
    exact reads_then (f := fun n => rOpnds N ks (acc ++ [n])) (reads_opnd N (c, n) (hx _ (by simp))) ih

theorem shapes_len : shapes.length = 42 := by decide
theorem kinds_short (op : Int) : (kindsOf op).length ≤ 4 := by
  unfold kindsOf
  have h : ∀ x ∈ shapes, x.2.length ≤ 4 := by decide
  rw [List.getD_eq_getElem?_getD]
  rcases Nat.lt_or_ge op.toNat shapes.length with h1 | h1
  · rw [List.getElem?_eq_getElem h1]
    exact h _ (List.getElem_mem h1)
  · rw [List.getElem?_eq_none h1]
    decide

theorem bnds_lo (P : Prg) (c : Nat) (h : c ≠ 110) : 0 ≤ (bnds P c).1 := by
  unfold bnds
  repeat' split
  all_goals first | omega | (simp; done) | (exact absurd ‹_› h)
theorem bnds_hi (P : Prg) (c : Nat) (hl : lensOk P) : (bnds P c).2 ≤ 1073741824 := by
  unfold lensOk at hl
  unfold bnds
  repeat' split
  all_goals (simp only; omega)

/-- An instruction that may be written. -/
structure OkIns (x : Ins5) : Prop where
  op : 0 ≤ x.1 ∧ x.1 < 42
  has : ∀ i (hi : i < (kindsOf x.1).length), okOp ((kindsOf x.1)[i], (opnds x).getD i 0)
  zero : ∀ i, i < 4 → (kindsOf x.1).length ≤ i → (opnds x).getD i 0 = 0
theorem okIns_of (P : Prg) (hl : lensOk P) (x : Ins5) (h : insErr P x = 0) : OkIns x := by
  unfold insErr at h
  by_cases hop : x.1 < 0 ∨ 42 ≤ x.1
  · rw [if_pos hop] at h; cases h
  rw [if_neg hop] at h
  cases ha : (List.range 4).all (fitAt P x)
  · rw [ha] at h; cases h
  rw [List.all_eq_true] at ha
  have hf : ∀ i, i < 4 → (bndAt P (kindsOf x.1) i).1 ≤ (opnds x).getD i 0 ∧ (opnds x).getD i 0 ≤ (bndAt P (kindsOf x.1) i).2 := fun i hi => by
    have := ha i (List.mem_range.2 hi)
    unfold fitAt at this
    simpa using this
  have hk4 := kinds_short x.1
  refine ⟨by omega, fun i hi => ?_, fun i hi hk => ?_⟩
  · have := hf i (by omega)
    unfold bndAt at this
    rw [if_pos hi] at this
    have hg : (kindsOf x.1).getD i 0 = (kindsOf x.1)[i] := by simp [List.getD, List.getElem?_eq_getElem hi]
    rw [hg] at this
    have h2 := bnds_hi P (kindsOf x.1)[i].toNat hl
    unfold okOp
    simp only
    by_cases hc : (kindsOf x.1)[i].toNat = 110
    · rw [if_pos hc]
      rw [hc] at this h2
      have h3 : (bnds P 110).1 = -1073741824 := rfl
      unfold nearI
      omega
    · rw [if_neg hc]
      have h3 := bnds_lo P _ hc
      omega
  · have := hf i hi
    unfold bndAt at this
    rw [if_neg (by omega)] at this
    simp only at this
    omega

theorem ins_back (x : Ins5) (h : OkIns x) : insOf x.1.toNat ((opnds x).take (kindsOf x.1).length) = x := by
  have hk := kinds_short x.1
  have hz := h.zero
  have ho := h.op
  generalize (kindsOf x.1).length = k at *
  obtain ⟨a, b, c, d, e⟩ := x
  simp only at ho
  have ea : ((a.toNat : Nat) : Int) = a := by omega
  have z0 : k ≤ 0 → b = 0 := fun hh => hz 0 (by omega) hh
  have z1 : k ≤ 1 → c = 0 := fun hh => hz 1 (by omega) hh
  have z2 : k ≤ 2 → d = 0 := fun hh => hz 2 (by omega) hh
  have z3 : k ≤ 3 → e = 0 := fun hh => hz 3 (by omega) hh
  rcases (show k = 0 ∨ k = 1 ∨ k = 2 ∨ k = 3 ∨ k = 4 by omega) with hk | hk | hk | hk | hk
  · rw [z0 (by omega), z1 (by omega), z2 (by omega), z3 (by omega), hk]; simp [insOf, opnds, ea]
  · rw [z1 (by omega), z2 (by omega), z3 (by omega), hk]; simp [insOf, opnds, ea]
  · rw [z2 (by omega), z3 (by omega), hk]; simp [insOf, opnds, ea]
  · rw [z3 (by omega), hk]; simp [insOf, opnds, ea]
  · rw [hk]; simp [insOf, opnds, ea]
theorem reads_ins (N : Nat) (x : Ins5) (h : OkIns x) : Reads N (rIns N) (encIns x) x := by
  refine reads_placed fun k => ?_
  have hop := h.op
  have hz : ∀ y ∈ (kindsOf x.1).zip (opnds x), okOp y := fun y hy => by
    obtain ⟨i, hi, rfl⟩ := List.mem_iff_getElem.1 hy
    have hl : i < (kindsOf x.1).length := by rw [List.length_zip] at hi; omega
    have h1 := h.has i hl
    have hi4 : i < (opnds x).length := by rw [List.length_zip] at hi; omega
    rw [List.getElem_zip]
    rw [List.getD_eq_getElem?_getD, List.getElem?_eq_getElem hi4] at h1
    exact h1
  have h1 := reads_opnds N (kindsOf x.1) (opnds x) [] (by have := kinds_short x.1; exact this) hz
  rw [List.nil_append] at h1
  have h2 := reads_last (g := fun l => insOf x.1.toNat l) h1
  simp only [ins_back x h] at h2
  have h3 : Reads N ((fun op : Nat => if 42 ≤ op then flaw 91 k else andThen (rOpnds N (kindsOf (op : Int)) []) fun l => told (insOf op l)) x.1.toNat) (((kindsOf x.1).zip (opnds x)).flatMap encOpnd) x := by
    simp only
    rw [if_neg (by omega), show ((x.1.toNat : Nat) : Int) = x.1 by omega]
    exact h2
  exact reads_then (reads_num N x.1.toNat (by omega)) h3

theorem codeErr_zero (P : Prg) : ∀ l : List Ins5, codeErr P l = 0 → ∀ x ∈ l, insErr P x = 0
  | [], _, x, hx => by cases hx
  | y :: l, h, x, hx => by
    unfold codeErr at h
    by_cases h0 : insErr P y = 0
    · rw [if_pos h0] at h
      rcases List.mem_cons.1 hx with rfl | hx
      · exact h0
      · exact codeErr_zero P l h x hx
    · rw [if_neg h0] at h; exact absurd h h0

/-- A program that may be written. -/
structure OkPrg (P : Prg) : Prop where
  lens : lensOk P
  vars : ∀ v ∈ P.vars, nearI v.1 ∧ nearI v.2.1 ∧ nearI v.2.2
  tags : ∀ t ∈ P.tags, 0 ≤ t ∧ t ≤ 1073741824
  on : ∀ t ∈ P.on, -1 ≤ t ∧ t ≤ 1073741824
  miss : -1 ≤ P.miss ∧ P.miss ≤ 1073741824
  code : ∀ x ∈ P.code, OkIns x
theorem tab_of (P : Prg) (h : checkErr P = 0) : tabOk P = true := by
  unfold checkErr at h
  cases ht : tabOk P
  · rw [ht] at h; cases h
  · rfl
theorem ok_of (P : Prg) (h : checkErr P = 0) : OkPrg P := by
  have ht := tab_of P h
  unfold checkErr at h
  rw [ht] at h
  unfold tabOk at ht
  simp only [Bool.and_eq_true, decide_eq_true_eq, List.all_eq_true] at ht
  obtain ⟨hl, hv, htg, ho, hm⟩ := ht
  have hl' := hl
  unfold lensOk at hl'
  have hw : ∀ n, within P n = true → -1 ≤ n ∧ n ≤ 1073741824 := fun n hn => by
    unfold within at hn
    simp only [Bool.and_eq_true, decide_eq_true_eq] at hn
    omega
  refine ⟨hl, fun v hv' => ?_, fun t ht' => ?_, fun t ht' => hw _ (ho t ht'), hw _ hm, fun x hx => okIns_of P hl x (codeErr_zero P _ h x hx)⟩
  · have := hv v hv'
    unfold varOk at this
    simp only [Bool.and_eq_true, Bool.not_eq_true', decide_eq_false_iff_not] at this
    unfold nearI
    omega
  · have := htg t ht'
    unfold tagOk at this
    simp only [Bool.and_eq_true, decide_eq_true_eq] at this
    omega

theorem flags_flat (l : List Bool) : l.map flagB = l.flatMap fun b => [flagB b] := by
  induction l with
  | nil => rfl
  | cons b l ih => rw [List.map_cons, List.flatMap_cons, ih]; rfl

/-- What encB lays rBody reads. -/
theorem reads_body (N : Nat) (P : Prg) (h : OkPrg P) : Reads N (rBody N) (encB P) P := by
  have hl := h.lens
  unfold lensOk at hl
  have hc : Reads N (rByte N) [87] 87 := reads_byte N 87
  unfold encB rBody
  refine reads_then hc ?_
  rw [if_neg (by decide)]
  refine reads_then (reads_many N 16 P.ghost.length (by omega) (by omega)) ?_
  have h1 := reads_reps (N := N) (rFlag N) (fun b => [flagB b]) P.ghost [] (fun a _ => reads_flag N a)
  rw [List.nil_append, ← flags_flat] at h1
  refine reads_then h1 ?_
  refine reads_then (reads_many N 16 P.vars.length (by omega) (by omega)) ?_
  have h2 := reads_reps (N := N) (rVar N) encVar P.vars [] (fun a ha => reads_var N a (h.vars a ha).1 (h.vars a ha).2.1 (h.vars a ha).2.2)
  rw [List.nil_append] at h2
  refine reads_then h2 ?_
  refine reads_then (reads_many N 4 P.tags.length (by omega) (by omega)) ?_
  have h3 := reads_reps (N := N) (rTag N) (fun t => num t.toNat) P.tags [] (fun a ha => reads_tag N a (h.tags a ha))
  rw [List.nil_append] at h3
  refine reads_then h3 ?_
  have h4 := reads_reps (N := N) (rOn N) (fun t => num (t + 1).toNat) P.on [] (fun a ha => reads_on N a (h.on a ha))
  rw [List.nil_append, hl.2.2.2.1] at h4
  refine reads_then h4 ?_
  refine reads_then (reads_on N P.miss h.miss) ?_
  refine reads_then (reads_many N 262144 P.code.length (by omega) (by omega)) ?_
  have h5 := reads_reps (N := N) (rIns N) encIns P.code [] (fun a ha => reads_ins N a (h.code a ha))
  rw [List.nil_append] at h5
  exact reads_last (g := fun is => (⟨P.ghost, P.vars, P.tags, P.on, P.miss, is⟩ : Prg)) h5

/-- There and back. -/
theorem decode_encode (P : Prg) (h : checkErr P = 0) : decode (encB P) = .ok P := by
  have h1 := (reads_body (encB P).length P (ok_of P h)).1 []
  rw [List.append_nil] at h1
  unfold decode rProg
  rw [h1]
  simp [h]
/-- A front is cut. -/
theorem decode_cut (P : Prg) (h : checkErr P = 0) (k : Nat) (hk : k < (encB P).length) : decode ((encB P).take k) = .error (81, k) := by
  have hl : ((encB P).take k).length = k := by rw [List.length_take]; omega
  have h1 := (reads_body k P (ok_of P h)).2 ((encB P).take k) ((encB P).drop k) (List.take_append_drop k _).symm (by
    intro e
    have := congrArg List.length e
    rw [List.length_drop] at this
    simp at this
    omega)
  unfold decode rProg
  rw [hl, h1]
  rfl
/-- Something stands behind. -/
theorem decode_tail (P : Prg) (h : checkErr P = 0) (t : List UInt8) (ht : t ≠ []) : decode (encB P ++ t) = .error (84, (encB P).length) := by
  have h1 := (reads_body (encB P ++ t).length P (ok_of P h)).1 t
  unfold decode rProg
  rw [h1]
  simp only [if_neg ht, List.length_append, Nat.add_sub_cancel]
  rfl
/-- Like bytes, like programs. -/
theorem enc_inj (P Q : Prg) (hP : checkErr P = 0) (hQ : checkErr Q = 0) (h : encB P = encB Q) : P = Q := by
  have h1 := decode_encode P hP
  rw [h, decode_encode Q hQ] at h1
  exact (Except.ok.inj h1).symm
theorem enc_front (P Q : Prg) (hP : checkErr P = 0) (hQ : checkErr Q = 0) (t : List UInt8) (h : encB Q = encB P ++ t) : t = [] := by
  have h1 := (reads_body 0 P (ok_of P hP)).1 t
  have h2 := (reads_body 0 Q (ok_of Q hQ)).1 []
  rw [List.append_nil, h, h1] at h2
  exact congrArg Prod.snd (Except.ok.inj h2)

/-- A number that was read: its bytes stood there. -/
theorem numF_wrote (N k : Nat) : ∀ (f g i u0 u : Nat) (r r' : List UInt8), f ≤ g + 1 → rNumF N k f i u0 r = .ok (u, r') → ∃ v, u = u0 + v * 128 ^ i ∧ v < 128 ^ f ∧ r = numF g v ++ r' ∧ (0 < i → 0 < v)
  | 0, _, _, _, _, _, _, _, h => by cases h
  | f + 1, g, i, u0, u, r, r', hg, h => by
    cases r with
    | nil => cases h
    | cons c r =>
      have h1 : (if c.toNat < 128 then (if c.toNat = 0 ∧ 0 < i then flaw 82 k else told (u0 + c.toNat * 128 ^ i)) else rNumF N k f (i + 1) (u0 + (c.toNat % 128) * 128 ^ i)) r = .ok (u, r') := h
      by_cases hc : c.toNat < 128
      · rw [if_pos hc] at h1
        by_cases hz : c.toNat = 0 ∧ 0 < i
        · rw [if_pos hz] at h1; cases h1
        · rw [if_neg hz] at h1
          have h2 := Except.ok.inj h1
          have h3 := congrArg Prod.fst h2
          have h4 := congrArg Prod.snd h2
          simp only at h3 h4
          refine ⟨c.toNat, h3.symm, Nat.lt_of_lt_of_le hc (by rw [Nat.pow_succ]; have := Nat.pow_pos (n := f) (show 0 < 128 by decide); omega), ?_, fun h0 => by omega⟩
          have e : numF g c.toNat = [c] := by
            cases g with
            | zero => simp [numF]
            | succ g => rw [numF, if_pos hc]; simp
          rw [e, h4]
          rfl
      · rw [if_neg hc] at h1
        have hf : 1 ≤ f := by
          rcases Nat.eq_zero_or_pos f with h0 | h0
          · subst h0; cases h1
          · exact h0
        obtain ⟨g, rfl⟩ : ∃ g', g = g' + 1 := ⟨g - 1, by omega⟩
        obtain ⟨v, hv, hlt, hr, hp⟩ := numF_wrote N k f g (i + 1) _ u r r' (by omega) h1
        have hp0 := hp (by omega)
        have hm : c.toNat % 128 < 128 := Nat.mod_lt _ (by decide)
        have hcl := c.toNat_lt
        refine ⟨c.toNat % 128 + v * 128, ?_, ?_, ?_, fun _ => by omega⟩
        · rw [hv, Nat.pow_succ, Nat.add_mul, Nat.add_assoc, Nat.mul_assoc, Nat.mul_comm 128 (128 ^ i)]
        · rw [Nat.pow_succ]; omega
        · rw [numF, if_neg (by omega), show (c.toNat % 128 + v * 128) / 128 = v by omega, show (c.toNat % 128 + v * 128) % 128 + 128 = c.toNat by omega, hr]
          simp
theorem num_wrote (N : Nat) (r : List UInt8) (u : Nat) (r' : List UInt8) (h : rNum N r = .ok (u, r')) : u < 9223372036854775808 ∧ r = num u ++ r' := by
  obtain ⟨v, hv, hlt, hr, _⟩ := numF_wrote N _ 9 10 0 0 u r r' (by decide) h
  have e : u = v := by rw [hv]; simp
  subst e
  have e9 : (128 : Nat) ^ 9 = 9223372036854775808 := by decide
  exact ⟨by omega, hr⟩
end Go.Proofs.YtfjiikadnlhekaaDoor
