/- wire, plainly: what is put, what is taken. -/
import Derived.Test.YtiommdidkhohgaaWord
namespace Go.Proofs.Ytiommdidkhohgaa.Wire
open Go.Proofs.Ytiommdidkhohgaa.Word
set_option linter.unusedVariables false
set_option linter.unusedSimpArgs false

/-- what a letter is -/
inductive Kd where
  | nat | int | flag | bytes | row
def Kd.byte : Kd → Nat
  | .nat => 110
  | .int => 105
  | .flag => 102
  | .bytes => 98
  | .row => 108
def kdOf (x : Nat) : Option Kd := if x = 110 then some .nat else if x = 105 then some .int else if x = 102 then some .flag else if x = 98 then some .bytes else if x = 108 then some .row else none
def kdsOf : List UInt8 → Option (List Kd)
  | [] => some []
  | x :: s => match kdOf x.toNat with
    | none => none
    | some k => (kdsOf s).map (k :: ·)
def schemaP (s : List UInt8) : Option (List Kd) := if s.length ≤ 64 then kdsOf s else none

/-- a value -/
structure WV where
  n : Nat
  i : Int
  f : Bool
  b : List UInt8
  l : List Nat
def wv0 : WV := ⟨0, 0, false, [], []⟩

def takeL : Nat → List UInt8 → Option (List Nat × Nat)
  | 0, _ => some ([], 0)
  | m + 1, b => match getW b with
    | none => none
    | some (x, k) => (takeL m (b.drop k)).map fun (l, u) => (x :: l, k + u)
def takeK (k : Kd) (b : List UInt8) : Option (WV × Nat) :=
  match k with
  | .nat => (getW b).map fun (n, k) => ({ wv0 with n := n }, k)
  | .int => (getW b).map fun (n, k) => ({ wv0 with i := unfoldZ n }, k)
  | .flag => match b with
    | [] => none
    | d :: _ => if d.toNat ≤ 1 then some ({ wv0 with f := d.toNat == 1 }, 1) else none
  | .bytes => match getW b with
    | none => none
    | some (n, k) => if n ≤ 262144 ∧ n ≤ b.length - k then some ({ wv0 with b := (b.drop k).take n }, k + n) else none
  | .row => match getW b with
    | none => none
    | some (n, k) => if n ≤ 4096 then (takeL n (b.drop k)).map fun (l, u) => ({ wv0 with l := l }, k + u) else none
def takeS : List Kd → List UInt8 → Option (List WV × Nat)
  | [], _ => some ([], 0)
  | k :: ks, b => match takeK k b with
    | none => none
    | some (v, u) => (takeS ks (b.drop u)).map fun (l, t) => (v :: l, u + t)
def outT : Option (List WV × Nat) → List WV × Nat × Int
  | none => ([], 0, 40)
  | some (l, u) => (l, u, 0)
/-- the values, how many bytes they have, the error -/
def takeP (s b : List UInt8) : List WV × Nat × Int :=
  match schemaP s with
  | none => ([], 0, 2)
  | some ks => outT (takeS ks b)
def wholeP (s b : List UInt8) : List WV × Int :=
  let x := takeP s b
  if x.2.2 = 0 ∧ x.2.1 < b.length then ([], 40) else (x.1, x.2.2)

def rowW (l : List Nat) : List UInt8 := l.flatMap putW
def putK (k : Kd) (v : WV) : List UInt8 :=
  match k with
  | .nat => putW v.n
  | .int => putW (foldZ v.i)
  | .flag => if v.f then [1] else [0]
  | .bytes => putW v.b.length ++ v.b
  | .row => putW v.l.length ++ rowW v.l
def fitsK (k : Kd) (v : WV) : Bool :=
  match k with
  | .nat => v.i == 0 && !v.f && v.b.isEmpty && v.l.isEmpty
  | .int => v.n == 0 && !v.f && v.b.isEmpty && v.l.isEmpty
  | .flag => v.n == 0 && v.i == 0 && v.b.isEmpty && v.l.isEmpty
  | .bytes => v.n == 0 && v.i == 0 && !v.f && v.l.isEmpty
  | .row => v.n == 0 && v.i == 0 && !v.f && v.b.isEmpty
def longV (v : WV) : Bool := decide (262144 < v.b.length) || decide (4096 < v.l.length)
def fitsS : List Kd → List WV → Bool
  | [], [] => true
  | k :: ks, v :: vs => fitsK k v && fitsS ks vs
  | _, _ => false
def putS : List Kd → List WV → List UInt8
  | k :: ks, v :: vs => putK k v ++ putS ks vs
  | _, _ => []
def putP (s : List UInt8) (l : List WV) : List UInt8 × Int :=
  match schemaP s with
  | none => ([], 2)
  | some ks => if fitsS ks l then (if l.any longV then ([], 3) else (putS ks l, 0)) else ([], 2)
end Go.Proofs.Ytiommdidkhohgaa.Wire
