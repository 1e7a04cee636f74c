/- message, plainly: what a message is, whether it may be, its form. -/
import Derived.Test.YtoneechcclndaaaPe
namespace Go.Proofs.Ytoneechcclndaaa.Msg
open Go.Proofs.Ytoneechcclndaaa.Word Go.Proofs.Ytoneechcclndaaa.Wire
set_option linter.unusedVariables false
set_option linter.unusedSimpArgs false

/-- a message -/
structure Ms where
  kind : Nat
  client : Int
  epoch : Int
  width : Int
  seq : Int
  last : Bool
  bs : List UInt8
def ms0 : Ms := ⟨0, 0, 0, 0, 0, false, []⟩
/-- what a kind has -/
structure Kk where
  width : Bool
  seq : Bool
  data : Bool
  least : Int
  up : Bool
def kk0 : Kk := ⟨false, false, false, 0, false⟩
def kkOf (n : Nat) : Option Kk :=
  if n = 1 then some ⟨true, false, false, 0, true⟩ else if n = 2 then some ⟨false, false, false, 0, true⟩ else if n = 3 then some ⟨false, true, false, 0, true⟩
  else if n = 4 then some ⟨false, true, true, 1, false⟩ else if n = 5 then some ⟨false, false, false, 0, false⟩ else none
def inB (has : Bool) (n least most : Int) : Bool := (has && decide (least ≤ n) && decide (n ≤ most)) || (!has && n == 0)
def mayK (k : Kk) (m : Ms) : Bool :=
  inB true m.client 0 5 && (inB true m.epoch 1 1099511627776 && (inB k.width m.width 0 2147483648 && (inB k.seq m.seq k.least 1099511627776 && (inB k.data (m.bs.length : Int) 1 48 && (k.data || !m.last)))))
def mayB (m : Ms) : Bool := match kkOf m.kind with
  | none => false
  | some k => mayK k m
theorem kk_cases {n : Nat} {k : Kk} (h : kkOf n = some k) : n = 1 ∧ k = ⟨true, false, false, 0, true⟩ ∨ n = 2 ∧ k = ⟨false, false, false, 0, true⟩ ∨ n = 3 ∧ k = ⟨false, true, false, 0, true⟩ ∨ n = 4 ∧ k = ⟨false, true, true, 1, false⟩ ∨ n = 5 ∧ k = ⟨false, false, false, 0, false⟩ := by
  unfold kkOf at h
  split at h
  · simp_all
  · split at h
    · simp_all
    · split at h
      · simp_all
      · split at h
        · simp_all
        · split at h
          · simp_all
          · cases h
theorem kk_none {n : Nat} (h : kkOf n = none) : n = 0 ∨ 6 ≤ n := by
  unfold kkOf at h
  split at h
  · cases h
  · split at h
    · cases h
    · split at h
      · cases h
      · split at h
        · cases h
        · split at h
          · cases h
          · omega
def schS (k : Kk) : List UInt8 := if k.data then [110, 110, 110, 110, 102, 98] else if k.width || k.seq then [110, 110, 110, 110] else [110, 110, 110]
def ksS (k : Kk) : List Kd := if k.data then [.nat, .nat, .nat, .nat, .flag, .bytes] else if k.width || k.seq then [.nat, .nat, .nat, .nat] else [.nat, .nat, .nat]
theorem sch_ks (k : Kk) : schemaP (schS k) = some (ksS k) := by
  obtain ⟨a, b, c, d, e⟩ := k
  cases a <;> cases b <;> cases c <;> rfl
def nV (i : Int) : WV := { wv0 with n := i.toNat }
/-- a message's six values; a kind has the first so many of them -/
def vals6 (m : Ms) : List WV := [{ wv0 with n := m.kind }, nV m.client, nV m.epoch, nV (m.width + m.seq), { wv0 with f := m.last }, { wv0 with b := m.bs }]
def valsK (k : Kk) (m : Ms) : List WV := (vals6 m).take (schS k).length
def printM (m : Ms) : List UInt8 × Int := match kkOf m.kind with
  | none => ([], 2)
  | some k => if mayK k m then putP (schS k) (valsK k m) else ([], 2)
def nthN (l : List WV) (i : Nat) : Nat := (l.getD i wv0).n
def numM (l : List WV) (i : Nat) : Int := (min (nthN l i) 1099511627777 : Nat)
def ofM (kn : Nat) (k : Kk) (l : List WV) : Ms :=
  ⟨kn, numM l 1, numM l 2, if k.width then numM l 3 else 0, if k.seq then numM l 3 else 0, if k.data then (l.getD 4 wv0).f else false, if k.data then (l.getD 5 wv0).b else []⟩
def parseM (b : List UInt8) : Ms × Int :=
  let h := takeP [110] b
  if h.2.2 = 0 then
    match kkOf (nthN h.1 0) with
    | none => (ms0, 240)
    | some k =>
      let x := wholeP (schS k) b
      if x.2 = 0 then
        let m := ofM (nthN h.1 0) k x.1
        if mayK k m then (m, 0) else (ms0, 240)
      else (ms0, 240)
  else (ms0, 240)
def sameM (a b : Ms) : Bool := a.kind == b.kind && (a.client == b.client && (a.epoch == b.epoch && (a.width == b.width && (a.seq == b.seq && (a.last == b.last && Bytes.eqB a.bs b.bs)))))
end Go.Proofs.Ytoneechcclndaaa.Msg
