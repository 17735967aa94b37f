/-
  What is proved here: the plain law the other way: whatever is read has been laid by 'encB'; a fault's place is within the bytes. Conditions: none.
-/
import Derived.Test.YtfjiikadnlhekaaDoorMid
namespace Go.Proofs.YtfjiikadnlhekaaDoor

theorem andThen_inv {α β : Type} {m : Rd α} {f : α → Rd β} {r r2 : List UInt8} {b : β} (h : andThen m f r = .ok (b, r2)) : ∃ a r1, m r = .ok (a, r1) ∧ f a r1 = .ok (b, r2) := by
  cases hm : m r with
  | error e => rw [andThen_err hm] at h; cases h
  | ok x => obtain ⟨a, r1⟩ := x; rw [andThen_ok hm] at h; exact ⟨a, r1, rfl, h⟩
theorem told_inv {α : Type} {a b : α} {r r2 : List UInt8} (h : told a r = .ok (b, r2)) : b = a ∧ r2 = r := by
  have h1 := Except.ok.inj h
  exact ⟨(congrArg Prod.fst h1).symm, (congrArg Prod.snd h1).symm⟩
theorem byte_wrote {N : Nat} {r r2 : List UInt8} {c : UInt8} (h : rByte N r = .ok (c, r2)) : r = c :: r2 := by
  cases r with
  | nil => cases h
  | cons d r =>
    have h1 := Except.ok.inj h
    have e1 : d = c := congrArg Prod.fst h1
    have e2 : r = r2 := congrArg Prod.snd h1
    rw [e1, e2]
theorem flag_wrote {N : Nat} {r r2 : List UInt8} {b : Bool} (h0 : rFlag N r = .ok (b, r2)) : r = [flagB b] ++ r2 := by
  have h : andThen (rByte N) (fun c => if 1 < c.toNat then flaw 82 (N - r.length) else told (c.toNat == 1)) r = .ok (b, r2) := h0
  obtain ⟨c, r1, h1, h2⟩ := andThen_inv h
  by_cases hc : 1 < c.toNat
  · rw [if_pos hc] at h2; cases h2
  · rw [if_neg hc] at h2
    obtain ⟨rfl, rfl⟩ := told_inv h2
    rw [byte_wrote h1]
    have : c.toNat = 0 ∨ c.toNat = 1 := by omega
    rcases this with h | h
    · rw [h]
      have e : c = 0 := by apply UInt8.toNat_inj.1; rw [h]; rfl
      rw [e]; rfl
    · rw [h]
      have e : c = 1 := by apply UInt8.toNat_inj.1; rw [h]; rfl
      rw [e]; rfl
theorem int_wrote {N : Nat} {r r2 : List UInt8} {n : Int} (h : rInt N r = .ok (n, r2)) : r = num (sgn n) ++ r2 := by
  obtain ⟨u, r1, h1, h2⟩ := andThen_inv h
  obtain ⟨rfl, rfl⟩ := told_inv h2
  rw [sgn_unsgn]
  exact (num_wrote _ _ _ _ h1).2
theorem var_wrote {N : Nat} {r r2 : List UInt8} {v : Var3} (h : rVar N r = .ok (v, r2)) : r = encVar v ++ r2 := by
  obtain ⟨a, r1, h1, h⟩ := andThen_inv h
  obtain ⟨b, r3, h3, h⟩ := andThen_inv h
  obtain ⟨c, r4, h4, h⟩ := andThen_inv h
  obtain ⟨rfl, rfl⟩ := told_inv h
  rw [int_wrote h1, int_wrote h3, int_wrote h4]
  simp [encVar]
theorem tag_wrote {N : Nat} {r r2 : List UInt8} {n : Int} (h : rTag N r = .ok (n, r2)) : r = num n.toNat ++ r2 := by
  obtain ⟨u, r1, h1, h2⟩ := andThen_inv h
  obtain ⟨rfl, rfl⟩ := told_inv h2
  exact (num_wrote _ _ _ _ h1).2
theorem on_wrote {N : Nat} {r r2 : List UInt8} {n : Int} (h : rOn N r = .ok (n, r2)) : r = num (n + 1).toNat ++ r2 := by
  obtain ⟨u, r1, h1, h2⟩ := andThen_inv h
  obtain ⟨rfl, rfl⟩ := told_inv h2
  rw [show ((u : Int) - 1 + 1).toNat = u by omega]
  exact (num_wrote _ _ _ _ h1).2
theorem many_wrote {N most u : Nat} {r r2 : List UInt8} (h0 : rMany N most r = .ok (u, r2)) : r = num u ++ r2 := by
  have h : andThen (rNum N) (fun u => if most < u then flaw 85 (N - r.length) else told u) r = .ok (u, r2) := h0
  obtain ⟨v, r1, h1, h2⟩ := andThen_inv h
  by_cases hm : most < v
  · rw [if_pos hm] at h2; cases h2
  · rw [if_neg hm] at h2
    obtain ⟨rfl, rfl⟩ := told_inv h2
    exact (num_wrote _ _ _ _ h1).2
theorem reps_wrote {α : Type} {m : Rd α} {enc : α → List UInt8} (hm : ∀ r a r2, m r = .ok (a, r2) → r = enc a ++ r2) : ∀ (n : Nat) (acc : List α) (r r2 : List UInt8) (l : List α), rReps m n acc r = .ok (l, r2) → ∃ l2, l = acc ++ l2 ∧ l2.length = n ∧ r = l2.flatMap enc ++ r2
  | 0, acc, r, r2, l, h => by
    obtain ⟨rfl, rfl⟩ := told_inv h
    exact ⟨[], by simp, rfl, rfl⟩
  | n + 1, acc, r, r2, l, h => by
    obtain ⟨a, r1, h1, h2⟩ := andThen_inv h
    obtain ⟨l2, h3, h4, h5⟩ := reps_wrote hm n (acc ++ [a]) r1 r2 l h2
    exact ⟨a :: l2, by rw [h3]; simp, by simp [h4], by rw [hm _ _ _ h1, h5]; simp⟩
theorem opnd_wrote {N : Nat} {c : UInt8} {r r2 : List UInt8} {n : Int} (h : rOpnd N c r = .ok (n, r2)) : r = encOpnd (c, n) ++ r2 := by
  unfold rOpnd at h
  unfold encOpnd
  by_cases hc : c.toNat = 110
  · rw [if_pos hc] at h; simp only [if_pos hc]; exact int_wrote h
  · rw [if_neg hc] at h; simp only [if_neg hc]; exact tag_wrote h
theorem opnds_wrote {N : Nat} : ∀ (ks : List UInt8) (acc : List Int) (r r2 : List UInt8) (l : List Int), rOpnds N ks acc r = .ok (l, r2) → ∃ l2, l = acc ++ l2 ∧ l2.length = ks.length ∧ r = (ks.zip l2).flatMap encOpnd ++ r2
  | [], acc, r, r2, l, h => by
    obtain ⟨rfl, rfl⟩ := told_inv h
    exact ⟨[], by simp, rfl, rfl⟩
  | c :: ks, acc, r, r2, l, h => by
    obtain ⟨a, r1, h1, h2⟩ := andThen_inv h
    obtain ⟨l2, h3, h4, h5⟩ := opnds_wrote ks (acc ++ [a]) r1 r2 l h2
    exact ⟨a :: l2, by rw [h3]; simp, by simp [h4], by rw [opnd_wrote h1, h5]; simp⟩
theorem zip_pad (ks : List UInt8) (op : Nat) (l : List Int) (h4 : ks.length ≤ 4) (h : l.length = ks.length) : ks.zip (opnds (insOf op l)) = ks.zip l := by
  match ks, l, h with
  | [], [], _ => rfl
  | [_], [_], _ => rfl
  | [_, _], [_, _], _ => rfl
  | [_, _, _], [_, _, _], _ => rfl
  | [_, _, _, _], [_, _, _, _], _ => rfl
  | _ :: _ :: _ :: _ :: _ :: _, _, _ => simp at h4
theorem ins_wrote {N : Nat} {r r2 : List UInt8} {x : Ins5} (h0 : rIns N r = .ok (x, r2)) : r = encIns x ++ r2 := by
  have h : andThen (rNum N) (fun op => if 42 ≤ op then flaw 91 (N - r.length) else andThen (rOpnds N (kindsOf (op : Int)) []) fun l => told (insOf op l)) r = .ok (x, r2) := h0
  obtain ⟨op, r1, h1, h2⟩ := andThen_inv h
  by_cases ho : 42 ≤ op
  · rw [if_pos ho] at h2; cases h2
  · rw [if_neg ho] at h2
    obtain ⟨l, r3, h3, h4⟩ := andThen_inv h2
    obtain ⟨rfl, rfl⟩ := told_inv h4
    obtain ⟨l2, h5, h6, h7⟩ := opnds_wrote _ _ _ _ _ h3
    rw [List.nil_append] at h5
    subst h5
    have hz := zip_pad (kindsOf (op : Int)) op l (kinds_short _) h6
    rw [(num_wrote _ _ _ _ h1).2, h7, ← hz]
    show _ = (num op ++ ((kindsOf (op : Int)).zip (opnds (insOf op l))).flatMap encOpnd) ++ _
    rw [List.append_assoc]
theorem body_wrote {N : Nat} {r r2 : List UInt8} {P : Prg} (h : rBody N r = .ok (P, r2)) : r = encB P ++ r2 := by
  obtain ⟨c, r1, h1, h⟩ := andThen_inv h
  by_cases hc : c.toNat ≠ 87
  · rw [if_pos hc] at h; cases h
  rw [if_neg hc] at h
  obtain ⟨q, r3, h3, h⟩ := andThen_inv h
  obtain ⟨gs, r4, h4, h⟩ := andThen_inv h
  obtain ⟨v, r5, h5, h⟩ := andThen_inv h
  obtain ⟨vs, r6, h6, h⟩ := andThen_inv h
  obtain ⟨t, r7, h7, h⟩ := andThen_inv h
  obtain ⟨ts, r8, h8, h⟩ := andThen_inv h
  obtain ⟨os, r9, h9, h⟩ := andThen_inv h
  obtain ⟨m, r10, h10, h⟩ := andThen_inv h
  obtain ⟨n, r11, h11, h⟩ := andThen_inv h
  obtain ⟨is, r12, h12, h⟩ := andThen_inv h
  obtain ⟨rfl, rfl⟩ := told_inv h
  obtain ⟨l4, e4, n4, w4⟩ := reps_wrote (enc := fun b => [flagB b]) (fun r a r2 => flag_wrote) _ _ _ _ _ h4
  obtain ⟨l6, e6, n6, w6⟩ := reps_wrote (enc := encVar) (fun r a r2 => var_wrote) _ _ _ _ _ h6
  obtain ⟨l8, e8, n8, w8⟩ := reps_wrote (enc := fun t => num t.toNat) (fun r a r2 => tag_wrote) _ _ _ _ _ h8
  obtain ⟨l9, e9, n9, w9⟩ := reps_wrote (enc := fun a => num (a + 1).toNat) (fun r a r2 => on_wrote) _ _ _ _ _ h9
  obtain ⟨l12, e12, n12, w12⟩ := reps_wrote (enc := encIns) (fun r a r2 => ins_wrote) _ _ _ _ _ h12
  rw [List.nil_append] at e4 e6 e8 e9 e12
  subst e4 e6 e8 e9 e12
  have ec : c = 87 := by apply UInt8.toNat_inj.1; exact Classical.byContradiction fun h => hc h
  subst ec
  unfold encB
  rw [byte_wrote h1, many_wrote h3, w4, many_wrote h5, w6, many_wrote h7, w8, w9, on_wrote h10, many_wrote h11, w12, n4, n6, n8, n12, flags_flat]
  simp
/-- Whatever Decode takes Encode has laid. -/
theorem decode_wrote {bs : List UInt8} {P : Prg} (h : decode bs = .ok P) : encB P = bs ∧ checkErr P = 0 := by
  unfold decode at h
  cases hp : rProg bs with
  | error e => rw [hp] at h; obtain ⟨e, k⟩ := e; cases h
  | ok Q =>
    rw [hp] at h
    simp only at h
    by_cases hc : checkErr Q = 0
    · rw [if_pos hc] at h
      obtain rfl := Except.ok.inj h
      refine ⟨?_, hc⟩
      unfold rProg at hp
      cases hb : rBody bs.length bs with
      | error e => rw [hb] at hp; cases hp
      | ok x =>
        obtain ⟨R, r⟩ := x
        rw [hb] at hp
        simp only at hp
        by_cases hr : r = []
        · rw [if_pos hr] at hp
          obtain rfl := Except.ok.inj hp
          have := body_wrote hb
          rw [hr, List.append_nil] at this
          exact this.symm
        · rw [if_neg hr] at hp; cases hp
    · rw [if_neg hc] at h; cases h

/-- A fault is none other than one, and lies within the bytes. -/
def Near {α : Type} (N : Nat) (m : Rd α) : Prop := ∀ r, r.length ≤ N → (∀ e k, m r = .error (e, k) → e ≠ 0 ∧ k ≤ N) ∧ (∀ a r2, m r = .ok (a, r2) → r2.length ≤ N)
theorem near_told {α : Type} {N : Nat} (a : α) : Near N (told a) := fun r hr => ⟨(fun e k h => by cases h), fun b r2 h => by rw [(told_inv h).2]; exact hr⟩
theorem near_flaw {α : Type} {N e k : Nat} (he : e ≠ 0) (hk : k ≤ N) : Near N (flaw e k : Rd α) := fun r _ => ⟨(fun e2 k2 h => by
  have h1 := Except.error.inj h
  have e1 : e = e2 := congrArg Prod.fst h1
  have e2 : k = k2 := congrArg Prod.snd h1
  rw [← e1, ← e2]; exact ⟨he, hk⟩), fun b r2 h => by cases h⟩
theorem near_then {α β : Type} {N : Nat} {m : Rd α} {f : α → Rd β} (h1 : Near N m) (h2 : ∀ a, Near N (f a)) : Near N (andThen m f) := by
  intro r hr
  cases hm : m r with
  | error e => rw [andThen_err hm]; exact ⟨fun e2 k2 h => (h1 r hr).1 e2 k2 (by rw [hm, Except.error.inj h]), (fun b r2 h => by cases h)⟩
  | ok x => obtain ⟨a, r1⟩ := x; rw [andThen_ok hm]; exact h2 a r1 ((h1 r hr).2 a r1 hm)
theorem near_placed {α : Type} {N : Nat} {f : Nat → Rd α} (h : ∀ k, k ≤ N → Near N (f k)) : Near N (placed N f) := fun r hr => h (N - r.length) (by omega) r hr
theorem near_byte (N : Nat) : Near N (rByte N) := by
  intro r hr
  cases r with
  | nil => exact ⟨(fun e k h => by
      have h1 := Except.error.inj h
      have e1 : 81 = e := congrArg Prod.fst h1
      have e2 : N = k := congrArg Prod.snd h1
      rw [← e1, ← e2]; exact ⟨by decide, Nat.le_refl _⟩), fun b r2 h => by cases h⟩
  | cons c r => exact ⟨(fun e k h => by cases h), fun b r2 h => by have := byte_wrote h; rw [this] at hr; simp at hr; omega⟩
theorem near_if {α : Type} {N : Nat} {c : Prop} [Decidable c] {m n : Rd α} (h1 : Near N m) (h2 : Near N n) : Near N (if c then m else n) := by split; exact h1; exact h2
theorem near_numF (N k : Nat) (hk : k ≤ N) : ∀ f i u, Near N (rNumF N k f i u)
  | 0, _, _ => near_flaw (by decide) hk
  | f + 1, i, u => near_then (near_byte N) fun _ => near_if (near_if (near_flaw (by decide) hk) (near_told _)) (near_numF N k hk f _ _)
theorem near_num (N : Nat) : Near N (rNum N) := near_placed fun k hk => near_numF N k hk 9 0 0
theorem near_reps {α : Type} {N : Nat} {m : Rd α} (h : Near N m) : ∀ n l, Near N (rReps m n l)
  | 0, l => near_told l
  | n + 1, l => near_then h fun a => near_reps h n (l ++ [a])
theorem near_flag (N : Nat) : Near N (rFlag N) := near_placed fun k hk => near_then (near_byte N) fun _ => near_if (near_flaw (by decide) hk) (near_told _)
theorem near_int (N : Nat) : Near N (rInt N) := near_then (near_num N) fun _ => near_told _
theorem near_var (N : Nat) : Near N (rVar N) := near_then (near_int N) fun _ => near_then (near_int N) fun _ => near_then (near_int N) fun _ => near_told _
theorem near_tag (N : Nat) : Near N (rTag N) := near_then (near_num N) fun _ => near_told _
theorem near_on (N : Nat) : Near N (rOn N) := near_then (near_num N) fun _ => near_told _
theorem near_many (N most : Nat) : Near N (rMany N most) := near_placed fun k hk => near_then (near_num N) fun _ => near_if (near_flaw (by decide) hk) (near_told _)
theorem near_opnd (N : Nat) (c : UInt8) : Near N (rOpnd N c) := near_if (near_int N) (near_tag N)
theorem near_opnds (N : Nat) : ∀ ks l, Near N (rOpnds N ks l)
  | [], l => near_told l
  | c :: ks, l => near_then (near_opnd N c) fun n => near_opnds N ks (l ++ [n])
theorem near_ins (N : Nat) : Near N (rIns N) := near_placed fun k hk => near_then (near_num N) fun _ => near_if (near_flaw (by decide) hk) (near_then (near_opnds N _ _) fun _ => near_told _)
theorem near_body (N : Nat) : Near N (rBody N) := near_then (near_byte N) fun _ => near_if (near_flaw (by decide) (Nat.zero_le _)) (near_then (near_many N 16) fun q => near_then (near_reps (near_flag N) q []) fun gs =>
  near_then (near_many N 16) fun v => near_then (near_reps (near_var N) v []) fun vs => near_then (near_many N 4) fun t => near_then (near_reps (near_tag N) t []) fun ts =>
  near_then (near_reps (near_on N) gs.length []) fun os => near_then (near_on N) fun m => near_then (near_many N 262144) fun c => near_then (near_reps (near_ins N) c []) fun is => near_told _)
theorem decode_near {bs : List UInt8} {c : Int} {k : Nat} (h : decode bs = .error (c, k)) : c ≠ 0 ∧ k ≤ bs.length := by
  unfold decode at h
  cases hp : rProg bs with
  | error e =>
    rw [hp] at h
    obtain ⟨e, k2⟩ := e
    have h1 := Except.error.inj h
    have e1 : (e : Int) = c := congrArg Prod.fst h1
    have e2 : k2 = k := congrArg Prod.snd h1
    subst e1 e2
    unfold rProg at hp
    cases hb : rBody bs.length bs with
    | error x =>
      rw [hb] at hp
      obtain rfl := Except.error.inj hp
      have := ((near_body bs.length) bs (Nat.le_refl _)).1 _ _ hb
      omega
    | ok x =>
      obtain ⟨R, r⟩ := x
      rw [hb] at hp
      simp only at hp
      by_cases hr : r = []
      · rw [if_pos hr] at hp; cases hp
      · rw [if_neg hr] at hp
        have h2 := Except.error.inj hp
        have e1 : 84 = e := congrArg Prod.fst h2
        have e2 : bs.length - r.length = k2 := congrArg Prod.snd h2
        omega
  | ok Q =>
    rw [hp] at h
    simp only at h
    by_cases hc : checkErr Q = 0
    · rw [if_pos hc] at h; cases h
    · rw [if_neg hc] at h
      have h1 := Except.error.inj h
      have e1 : checkErr Q = c := congrArg Prod.fst h1
      have e2 : 0 = k := congrArg Prod.snd h1
      rw [← e1, ← e2]
      exact ⟨hc, Nat.zero_le _⟩
end Go.Proofs.YtfjiikadnlhekaaDoor
