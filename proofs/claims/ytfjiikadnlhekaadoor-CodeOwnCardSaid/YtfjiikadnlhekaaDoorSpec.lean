/-
  What is proved here: nothing but unfoldings: what a program's bytes are ('encB') and what a reading of bytes tells ('decode'), as plain functions. Conditions: none.
-/
import Derived.Test.YtfjiikadnlhekaaDoorRead
namespace Go.Proofs.YtfjiikadnlhekaaDoor

/-- A reading: of what is left it takes a value off, or tells a fault and its place. -/
abbrev Got (α : Type) := Except (Nat × Nat) (α × List UInt8)
abbrev Rd (α : Type) := List UInt8 → Got α
def andThen {α β : Type} (m : Rd α) (f : α → Rd β) : Rd β := fun r => match m r with
  | .error e => .error e
  | .ok (a, r') => f a r'
def told {α : Type} (a : α) : Rd α := fun r => .ok (a, r)
def flaw {α : Type} (e k : Nat) : Rd α := fun _ => .error (e, k)
def placed {α : Type} (N : Nat) (f : Nat → Rd α) : Rd α := fun r => f (N - r.length) r

def rByte (N : Nat) : Rd UInt8
  | [] => .error (81, N)
  | c :: r => .ok (c, r)
def rNumF (N first : Nat) : Nat → Nat → Nat → Rd Nat
  | 0, _, _ => flaw 82 first
  | f + 1, i, u => andThen (rByte N) fun c => if c.toNat < 128 then (if c.toNat = 0 ∧ 0 < i then flaw 82 first else told (u + c.toNat * 128 ^ i)) else rNumF N first f (i + 1) (u + (c.toNat % 128) * 128 ^ i)
def rNum (N : Nat) : Rd Nat := placed N fun k => rNumF N k 9 0 0
def rReps {α : Type} (m : Rd α) : Nat → List α → Rd (List α)
  | 0, l => told l
  | n + 1, l => andThen m fun a => rReps m n (l ++ [a])
def rFlag (N : Nat) : Rd Bool := placed N fun k => andThen (rByte N) fun c => if 1 < c.toNat then flaw 82 k else told (c.toNat == 1)
def unsgn (u : Nat) : Int := if u % 2 = 1 then -((u / 2 : Nat) : Int) - 1 else ((u / 2 : Nat) : Int)
def rInt (N : Nat) : Rd Int := andThen (rNum N) fun u => told (unsgn u)
def rVar (N : Nat) : Rd Var3 := andThen (rInt N) fun a => andThen (rInt N) fun b => andThen (rInt N) fun c => told (a, b, c)
def rTag (N : Nat) : Rd Int := andThen (rNum N) fun u => told (u : Int)
def rOn (N : Nat) : Rd Int := andThen (rNum N) fun u => told ((u : Int) - 1)
def rMany (N most : Nat) : Rd Nat := placed N fun k => andThen (rNum N) fun u => if most < u then flaw 85 k else told u
def rOpnd (N : Nat) (c : UInt8) : Rd Int := if c.toNat = 110 then rInt N else rTag N
def rOpnds (N : Nat) : List UInt8 → List Int → Rd (List Int)
  | [], l => told l
  | c :: ks, l => andThen (rOpnd N c) fun n => rOpnds N ks (l ++ [n])
def insOf (op : Nat) (l : List Int) : Ins5 := ((op : Int), l.getD 0 0, l.getD 1 0, l.getD 2 0, l.getD 3 0)
def rIns (N : Nat) : Rd Ins5 := placed N fun k => andThen (rNum N) fun op => if 42 ≤ op then flaw 91 k else andThen (rOpnds N (kindsOf (op : Int)) []) fun l => told (insOf op l)
/-- A program, whatever stands behind it. -/
def rBody (N : Nat) : Rd Prg := andThen (rByte N) fun c => if c.toNat ≠ 87 then flaw 83 0 else
  andThen (rMany N 16) fun q => andThen (rReps (rFlag N) q []) fun gs =>
  andThen (rMany N 16) fun v => andThen (rReps (rVar N) v []) fun vs =>
  andThen (rMany N 4) fun t => andThen (rReps (rTag N) t []) fun ts =>
  andThen (rReps (rOn N) gs.length []) fun os => andThen (rOn N) fun m =>
  andThen (rMany N 262144) fun c => andThen (rReps (rIns N) c []) fun is => told ⟨gs, vs, ts, os, m, is⟩
/-- Behind a program nothing may stand. -/
def rProg (bs : List UInt8) : Except (Nat × Nat) Prg := match rBody bs.length bs with
  | .error e => .error e
  | .ok (P, r) => if r = [] then .ok P else .error (84, bs.length - r.length)
/-- What Decode tells: a program, or a fault. -/
def decode (bs : List UInt8) : Except (Int × Nat) Prg := match rProg bs with
  | .error (e, k) => .error ((e : Int), k)
  | .ok P => if checkErr P = 0 then .ok P else .error (checkErr P, 0)

def flagB (b : Bool) : UInt8 := if b then 1 else 0
def encVar (v : Var3) : List UInt8 := num (sgn v.1) ++ (num (sgn v.2.1) ++ num (sgn v.2.2))
def encOpnd (x : UInt8 × Int) : List UInt8 := if x.1.toNat = 110 then num (sgn x.2) else num x.2.toNat
def encIns (x : Ins5) : List UInt8 := num x.1.toNat ++ ((kindsOf x.1).zip (opnds x)).flatMap encOpnd
/-- A program's bytes. -/
def encB (P : Prg) : List UInt8 := [87] ++ (num P.ghost.length ++ (P.ghost.map flagB ++ (num P.vars.length ++ (P.vars.flatMap encVar ++ (num P.tags.length ++ (P.tags.flatMap (fun t => num t.toNat) ++
  (P.on.flatMap (fun a => num (a + 1).toNat) ++ (num (P.miss + 1).toNat ++ (num P.code.length ++ P.code.flatMap encIns)))))))))
end Go.Proofs.YtfjiikadnlhekaaDoor
