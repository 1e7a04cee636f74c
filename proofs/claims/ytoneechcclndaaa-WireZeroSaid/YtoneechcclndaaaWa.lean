/- the document's Get (windowpaneref02), whole; the program's at any place.
wire, plainly: what is put, what is taken.
wire: values in memory; the program's natural, integer, flag.
wire: the program's integer, flag, some.
wire: the program's some.
wire: the program's numbers. -/
import Derived.Test.YtoneechcclndaaaWq
import Derived.Test.YtoneechcclndaaaWo
import Derived.Test.YtoneechcclndaaaRg
import Derived.Outline
import Derived.BigQuiet
import Derived.Deep.QuietTactic
import Derived.Deep.RegionWith
import Derived.Deep.RegionHeld3
import Derived.Deep.DrawnRows
import Derived.Deep.LoopGhost
import Derived.Deep.DeepCutAuto
import Derived.Laws.EntriesVeiled
namespace Go.Proofs.Ytoneechcclndaaa.Word
open Go.RowKit Go.ChangeShapes Go.WideShapes Go.ChangeAt
set_option linter.unusedVariables false
set_option linter.unusedSimpArgs false
attribute [local go_sem ↓] Go.wp_at_zero Go.wp_at_succ
open Go.Shelf

theorem get_any (l : List UInt8) (A : Option Addr) (n cap : Nat) (at' : Int) (w : World) (hl : BySl w w.heap.size A l) (hn : Hid (n = l.length)) (hc : n ≤ cap) (hm : n ≤ 1000000000000) :
    Calls Try.prog 113 #[.slice A n cap, .int .i64 at'] w fun e w' => e = .returned (getV (getAt l at')) ∧ Below w.heap.size w w' := by
  by_cases h : at' < 0 ∨ (n : Int) ≤ at'
  · exact get_out l A n cap at' w hn h
  · obtain ⟨k, rfl⟩ : ∃ k : Nat, at' = (k : Int) := ⟨at'.toNat, by omega⟩
    have e : getAt l (k : Int) = getW (l.drop k) := by unfold getAt; rw [if_neg (by rw [← hn.out]; exact h)]; simp
    rw [e]
    exact get_in l A n cap k w hl hn hc hm (by omega)

theorem same_at (l m : List UInt8) (A B : Option Addr) (nl nm ca cb : Nat) (w : World) (hl : BySl w w.heap.size A l) (hm : BySl w w.heap.size B m) (hnl : Hid (nl = l.length)) (hnm : Hid (nm = m.length)) (h63 : nl ≤ maxLen) (h63' : nm ≤ maxLen) :
    Calls Try.prog 20 #[.slice A nl ca, .slice B nm cb] w fun e w' => e = .returned (.bool (Bytes.eqB l m)) ∧ ∃ n, w' = w.drewN n := by
  obtain rfl := hnl.out
  obtain rfl := hnm.out
  exact Bytes.same_any l m A B ca cb w hl hm h63 h63'

theorem rget_out (l : List UInt8) (A : Option Addr) (n cap : Nat) (at' : Int) (w : World) (hn : Hid (n = l.length)) (hm : n ≤ 1000000000000) (h : at' < 0 ∨ (n : Int) ≤ at') :
    Calls Try.prog 110 #[.slice A n cap, .int .i64 at'] w fun e w' => e = .returned (getV (getAt l at')) ∧ Below w.heap.size w w' := by
  have hg : Hid (getAt l at' = none) := by unfold Hid getAt; rw [if_pos (by rw [← hn.out]; exact h)]
  have e2 : IntKind.i64.wrap ((n : Int) - 1) = (n : Int) - 1 := IntWalk.i64_in _ (by omega)
  have e3 : IntKind.i64.wrap ((n : Int) - 1 - (0 : Int)) = (n : Int) - 1 - 0 := IntWalk.i64_in _ (by omega)
  have hz : ¬ (at' ≤ (n : Int) - 1 - 0) ∨ ¬ (0 ≤ at') := by omega
  go_enter Try.func110, Try.ntmps110
  go_wp2
  go_loopg [7, 8, 9] 0 (fun g vn vu vi wr => vi = .int .i64 0 ∧ wr = w)
  case atStart => exact ⟨rfl, rfl⟩
  case round =>
    obtain ⟨rfl, rfl⟩ := hrel
    by_cases h0 : 0 ≤ at'
    · have h1 : ¬ (at' ≤ (n : Int) - 1 - 0) := by omega
      go_wp2
      refine bodyPost_ret (v := getV none) ?_ rfl ⟨by rw [hg.out], (by repeat (first | exact Below.refl _ _ | assumption | refine Below.drew ?_ | refine bdrewN ?_ _ | refine Below.alloc ?_ (by simp; try omega) _ | refine Below.setCell ?_ (by simp; try omega) _))⟩
      simp [results, Try.results110, go_sem, getV]
    · go_wp2
      refine bodyPost_ret (v := getV none) ?_ rfl ⟨by rw [hg.out], (by repeat (first | exact Below.refl _ _ | assumption | refine Below.drew ?_ | refine bdrewN ?_ _ | refine Below.alloc ?_ (by simp; try omega) _ | refine Below.setCell ?_ (by simp; try omega) _))⟩
      simp [results, Try.results110, go_sem, getV]

theorem wrapN64 (n : Nat) {z : Int} (hz : z = (n : Int)) : IntKind.u64.wrap z = ((n % p64 : Nat) : Int) := by
  subst hz
  have h : IntKind.u64.wrap (n : Int) = (n : Int) % 18446744073709551616 := by simp [IntKind.wrap, IntKind.bits, IntKind.signed]
  rw [h]
  unfold p64
  omega
/-- how far Get has come -/
structure RG (l : List UInt8) (k i nv uv : Nat) : Prop where
  low : lowIdx (l.drop k) = (lowIdx ((l.drop k).drop i)).map (· + i)
  n : nv = valL ((l.drop k).take i) % p64
  u : uv = 128 ^ i % p64

theorem rget_in (l : List UInt8) (A : Option Addr) (n cap k : Nat) (w : World) (hl : BySl w w.heap.size A l) (hn : Hid (n = l.length)) (hc : n ≤ cap) (hm : n ≤ 1000000000000) (hk : k < n) :
    Calls Try.prog 110 #[.slice A n cap, .int .i64 (k : Int)] w fun e w' => e = .returned (getV (getW (l.drop k))) ∧ Below w.heap.size w w' := by
  have e2 : IntKind.i64.wrap ((n : Int) - 1) = (n : Int) - 1 := IntWalk.i64_in _ (by omega)
  have k0 : (0 : Int) ≤ (k : Int) := Int.natCast_nonneg _
  have HL := Lib.hid hl
  have HW := Lib.hid (Below.refl w.heap.size w)
  have hlen : Hid (n - k = (l.drop k).length) := by unfold Hid; rw [List.length_drop, ← hn.out]
  clear hl
  go_enter Try.func110, Try.ntmps110
  go_wp2
  go_loopg [7, 8, 9] 10 (fun g vn vu vi wr => ∃ i nv uv : Nat, vi = .int .i64 (i : Int) ∧ vn = .int .u64 (nv : Int) ∧ vu = .int .u64 (uv : Int) ∧ 10 ≤ i + g ∧ i ≤ 10 ∧ Hid (RG l k i nv uv) ∧ wr = w)
  case atStart =>
    refine ⟨0, 0, 1, rfl, rfl, rfl, by omega, by omega, ⟨?_, rfl, rfl⟩, rfl⟩
    rw [List.drop_zero]
    cases hh : lowIdx (l.drop k) <;> rfl
  case round =>
    obtain ⟨i, nv, uv, rfl, rfl, rfl, hg, hi, hR, rfl⟩ := hrel
    have e3 : IntKind.i64.wrap ((n : Int) - 1 - (i : Int)) = (n : Int) - 1 - (i : Int) := IntWalk.i64_in _ (by omega)
    by_cases hi10 : i < 10
    · by_cases hin : k + i < n
      · have c1 : decide ((i : Int) < 10) = true := decide_eq_true (by omega)
        have c2 : decide ((k : Int) ≤ (n : Int) - 1 - (i : Int)) = true := decide_eq_true (by omega)
        have hx : l[k + i]? = some l[k + i] := List.getElem?_eq_getElem (by rw [← hn.out]; exact hin)
        obtain ⟨bb, off, rfl, hbb, c0⟩ := BySl.at_ HL.out hx
        have Hx : Hid ((l.drop k)[i]? = some l[k + i]) := by rw [Hid, List.getElem?_drop]; exact hx
        generalize l[k + i] = d at *
        have hnv : nv < p64 := by rw [hR.out.n]; exact Nat.mod_lt _ (by decide)
        have huv : uv < p64 := by rw [hR.out.u]; exact Nat.mod_lt _ (by decide)
        have i0 : IntKind.i64.wrap ((k : Int) + (i : Int)) = ((k + i : Nat) : Int) := by rw [IntWalk.i64_in _ (by omega)]; omega
        obtain ⟨m, hmm⟩ : ∃ m, m = k + i := ⟨_, rfl⟩
        rw [← hmm] at i0 c0
        have m0 : (0 : Int) ≤ (m : Int) := Int.natCast_nonneg _
        have m1 : (m : Int) < (n : Int) := by omega
        have HM := Lib.hid hmm
        clear hmm
        obtain ⟨dm, hdm⟩ : ∃ dm, dm = d.toNat % 128 := ⟨_, rfl⟩
        have e4 : Int.tmod (d.toNat : Int) 128 = (dm : Int) := by rw [hdm]; exact (Int.ofNat_tmod _ _).symm
        have e5 : IntKind.u64.wrap (dm : Int) = (dm : Int) := IntWalk.u64_in _ (by omega)
        obtain ⟨pm, hpm⟩ : ∃ pm, pm = dm * uv % p64 := ⟨_, rfl⟩
        obtain ⟨sm, hsm⟩ : ∃ sm, sm = (nv + pm) % p64 := ⟨_, rfl⟩
        obtain ⟨um, hum⟩ : ∃ um, um = uv * 128 % p64 := ⟨_, rfl⟩
        have e6 : IntKind.u64.wrap ((dm : Int) * (uv : Int)) = (pm : Int) := by rw [hpm]; exact wrapN64 (dm * uv) (by simp)
        have e7 : IntKind.u64.wrap ((nv : Int) + (pm : Int)) = (sm : Int) := by rw [hsm]; exact wrapN64 (nv + pm) (by simp)
        have e8 : IntKind.u64.wrap ((uv : Int) * 128) = (um : Int) := by rw [hum]; exact wrapN64 (uv * 128) (by simp)
        have HS := Lib.hid (show sm = valL ((l.drop k).take (i + 1)) % p64 from by
          rw [hsm, hpm, hdm, Nat.add_mod, Nat.mod_mod, ← Nat.add_mod, hR.out.n, hR.out.u]
          exact rget_sum Hx.out)
        have HU := Lib.hid (show um = 128 ^ (i + 1) % p64 from by rw [hum, hR.out.u]; exact rget_unit i)
        clear hdm hpm hsm hum
        by_cases hd : d.toNat < 128
        · have c3 : decide ((128 : Int) ≤ (d.toNat : Int)) = false := decide_eq_false (by omega)
          have hsv : sm < p64 := by rw [HS.out]; exact Nat.mod_lt _ (by decide)
          have i4 : IntKind.i64.wrap ((m : Int) + 1) = (m : Int) + 1 := IntWalk.i64_in _ (by omega)
          have i5 : IntKind.i64.wrap ((i : Int) + 1) = (i : Int) + 1 := IntWalk.i64_in _ (by omega)
          have hlh : ∀ W, (Instr.slice 25 (.slice (some ⟨bb, off, none⟩) n cap) (some (.int .i64 (k : Int))) (some (.int .i64 ((m : Int) + 1))) none).run Try.prog W = .ok (.slice (cutA (some ⟨bb, off, none⟩) cap k 1) (i + 1) (cap - k)) W := fun W => by
            have := run_slice_lohi (c := 1) Try.underlying25 (Option.isSome_iff_exists.1 (by kernel_rfl)) (by kernel_rfl) (some ⟨bb, off, none⟩) n cap (k : Int) ((m : Int) + 1) (by omega) (by have := HM.out; omega) (by omega) W
            have h5 : ((m : Int) + 1).toNat - (k : Int).toNat = i + 1 := by have := HM.out; omega
            rw [h5, Int.toNat_natCast] at this
            exact this
          have HT : Hid (BySl wr wr.heap.size (cutA (some ⟨bb, off, none⟩) cap k 1) ((l.drop k).take (i + 1)) ∧ i + 1 = ((l.drop k).take (i + 1)).length) := by
            refine ⟨(Sl.cut HL.out cap k (by rw [← hn.out]; exact hc)).take (i + 1), ?_⟩
            rw [List.length_take, ← hlen.out]
            omega
          have hfin := Lib.hid (rget_low hR.out.low Hx.out hd (by omega) HS.out)
          have HMX : Hid (i + 1 ≤ maxLen) := by unfold Hid maxLen; omega
          generalize cutA (some ⟨bb, off, none⟩) cap k 1 = Ac at *
          have hsame : ∀ (w1 : World) (A1 : Option Addr) (n1 cap1 : Nat), Hid (Own w1 wr.heap.size 5 1 encB (.slice A1 n1 cap1) (putW sm) ∧ Below wr.heap.size wr w1 ∧ n1 ≤ maxLen) → Hid (n1 = (putW sm).length) →
              Calls Try.prog 20 #[.slice A1 n1 cap1, .slice Ac (i + 1) (cap - k)] w1 fun e w' => e = .returned (.bool (Bytes.eqB (putW sm) ((l.drop k).take (i + 1)))) ∧ ∃ n, w' = w1.drewN n := fun w1 A1 n1 cap1 HO hn1 =>
            same_at (putW sm) ((l.drop k).take (i + 1)) A1 Ac n1 (i + 1) cap1 (cap - k) w1 (HO.out.1.sls encB_len) (HT.out.1.ext HO.out.2.1) hn1 HT.out.2 HO.out.2.2 HMX.out
          clear hR
          go_wp2
          go_region_with (first | (go_at_call 25; refine (rput sm hsv _).mono ?_; rintro e w1 ⟨V, rfl, hown, hb⟩; obtain ⟨A1, n1, cap1, rfl, hn1, hle1, hmx1⟩ := hown.form; have HO : Hid (Own w1 wr.heap.size 5 1 encB (.slice A1 n1 cap1) (putW sm) ∧ Below wr.heap.size wr w1 ∧ n1 ≤ maxLen) := Lib.hid (And.intro hown (And.intro ⟨hb.os, hb.tape, hb.output, hb.size, hb.block⟩ (Nat.le_trans hle1 hmx1))); clear hown hb) | (go_at_call 20; refine (hsame _ _ _ _ HO hn1).mono ?_; rintro e w' ⟨rfl, nq, rfl⟩))
          all_goals (
            have hB1 : Below wr.heap.size wr (w1.drewN nq) := bdrewN HO.out.2.1 nq
            have hcase : Hid (Bytes.eqB (putW sm) ((l.drop k).take (i + 1)) = decide (putW sm = (l.drop k).take (i + 1))) := by
              rw [Hid, Bool.eq_iff_iff, Bytes.eqB_iff, decide_eq_true_iff]
            generalize Bytes.eqB (putW sm) ((l.drop k).take (i + 1)) = q at *
            cases q with
            | true =>
              have h8 := Lib.hid (hfin.out.trans (if_pos (of_decide_eq_true hcase.out.symm)))
              go_wp2
              refine bodyPost_ret (v := getV (some (sm, i + 1))) ?_ rfl ⟨by rw [h8.out], hB1⟩
              simp [results, Try.results110, go_sem, getV]
            | false =>
              have h8 := Lib.hid (hfin.out.trans (if_neg (of_decide_eq_false hcase.out.symm)))
              go_wp2
              refine bodyPost_ret (v := getV none) ?_ rfl ⟨by rw [h8.out], hB1⟩
              simp [results, Try.results110, go_sem, getV])
        · have c3 : decide ((128 : Int) ≤ (d.toNat : Int)) = true := decide_eq_true (by omega)
          go_wp2
          go_roundg (gk - 1)
          case measure => omega
          case rel => exact ⟨i + 1, sm, um, by go_num, rfl, rfl, by omega, by omega, ⟨rget_next hR.out.low Hx.out hd, HS.out, HU.out⟩, rfl⟩
      · have c1 : decide ((i : Int) < 10) = true := decide_eq_true (by omega)
        have c2 : decide ((k : Int) ≤ (n : Int) - 1 - (i : Int)) = false := decide_eq_false (by omega)
        have hz := Lib.hid (rget_end hR.out.low (.inr (by rw [← hlen.out]; omega)))
        go_wp2
        refine bodyPost_ret (v := getV none) ?_ rfl ⟨by rw [hz.out], (by repeat (first | exact Below.refl _ _ | assumption | refine Below.drew ?_ | refine bdrewN ?_ _ | refine Below.alloc ?_ (by simp; try omega) _ | refine Below.setCell ?_ (by simp; try omega) _))⟩
        simp [results, Try.results110, go_sem, getV]
    · have c1 : decide ((i : Int) < 10) = false := decide_eq_false (by omega)
      have hz := Lib.hid (rget_end hR.out.low (.inl (by omega)))
      go_wp2
      refine bodyPost_ret (v := getV none) ?_ rfl ⟨by rw [hz.out], (by repeat (first | exact Below.refl _ _ | assumption | refine Below.drew ?_ | refine bdrewN ?_ _ | refine Below.alloc ?_ (by simp; try omega) _ | refine Below.setCell ?_ (by simp; try omega) _))⟩
      simp [results, Try.results110, go_sem, getV]

theorem rget_any (l : List UInt8) (A : Option Addr) (n cap : Nat) (at' : Int) (w : World) (hl : BySl w w.heap.size A l) (hn : Hid (n = l.length)) (hc : n ≤ cap) (hm : n ≤ 1000000000000) :
    Calls Try.prog 110 #[.slice A n cap, .int .i64 at'] w fun e w' => e = .returned (getV (getAt l at')) ∧ Below w.heap.size w w' := by
  by_cases h : at' < 0 ∨ (n : Int) ≤ at'
  · exact rget_out l A n cap at' w hn (by omega) h
  · obtain ⟨k, rfl⟩ : ∃ k : Nat, at' = (k : Int) := ⟨at'.toNat, by omega⟩
    have e : getAt l (k : Int) = getW (l.drop k) := by unfold getAt; rw [if_neg (by rw [← hn.out]; exact h)]; simp
    rw [e]
    exact rget_in l A n cap k w hl hn hc hm (by omega)
end Go.Proofs.Ytoneechcclndaaa.Word

namespace Go.Proofs.Ytoneechcclndaaa.Wire
open Go.Proofs.Ytoneechcclndaaa.Word
set_option linter.unusedVariables false
set_option linter.unusedSimpArgs false

/-- what a letter is -/
inductive Kd where
  | nat | int | flag | bytes | row
def Kd.byte : Kd → Nat
  | .nat => 110
  | .int => 105
  | .flag => 102
  | .bytes => 98
  | .row => 108
def kdOf (x : Nat) : Option Kd := if x = 110 then some .nat else if x = 105 then some .int else if x = 102 then some .flag else if x = 98 then some .bytes else if x = 108 then some .row else none
def kdsOf : List UInt8 → Option (List Kd)
  | [] => some []
  | x :: s => match kdOf x.toNat with
    | none => none
    | some k => (kdsOf s).map (k :: ·)
def schemaP (s : List UInt8) : Option (List Kd) := if s.length ≤ 64 then kdsOf s else none

/-- a value -/
structure WV where
  n : Nat
  i : Int
  f : Bool
  b : List UInt8
  l : List Nat
def wv0 : WV := ⟨0, 0, false, [], []⟩

def takeL : Nat → List UInt8 → Option (List Nat × Nat)
  | 0, _ => some ([], 0)
  | m + 1, b => match getW b with
    | none => none
    | some (x, k) => (takeL m (b.drop k)).map fun (l, u) => (x :: l, k + u)
def takeK (k : Kd) (b : List UInt8) : Option (WV × Nat) :=
  match k with
  | .nat => (getW b).map fun (n, k) => ({ wv0 with n := n }, k)
  | .int => (getW b).map fun (n, k) => ({ wv0 with i := unfoldZ n }, k)
  | .flag => match b with
    | [] => none
    | d :: _ => if d.toNat ≤ 1 then some ({ wv0 with f := d.toNat == 1 }, 1) else none
  | .bytes => match getW b with
    | none => none
    | some (n, k) => if n ≤ 262144 ∧ n ≤ b.length - k then some ({ wv0 with b := (b.drop k).take n }, k + n) else none
  | .row => match getW b with
    | none => none
    | some (n, k) => if n ≤ 4096 then (takeL n (b.drop k)).map fun (l, u) => ({ wv0 with l := l }, k + u) else none
def takeS : List Kd → List UInt8 → Option (List WV × Nat)
  | [], _ => some ([], 0)
  | k :: ks, b => match takeK k b with
    | none => none
    | some (v, u) => (takeS ks (b.drop u)).map fun (l, t) => (v :: l, u + t)
def outT : Option (List WV × Nat) → List WV × Nat × Int
  | none => ([], 0, 40)
  | some (l, u) => (l, u, 0)
/-- the values, how many bytes they have, the error -/
def takeP (s b : List UInt8) : List WV × Nat × Int :=
  match schemaP s with
  | none => ([], 0, 2)
  | some ks => outT (takeS ks b)
def wholeP (s b : List UInt8) : List WV × Int :=
  let x := takeP s b
  if x.2.2 = 0 ∧ x.2.1 < b.length then ([], 40) else (x.1, x.2.2)

def rowW (l : List Nat) : List UInt8 := l.flatMap putW
def putK (k : Kd) (v : WV) : List UInt8 :=
  match k with
  | .nat => putW v.n
  | .int => putW (foldZ v.i)
  | .flag => if v.f then [1] else [0]
  | .bytes => putW v.b.length ++ v.b
  | .row => putW v.l.length ++ rowW v.l
def fitsK (k : Kd) (v : WV) : Bool :=
  match k with
  | .nat => v.i == 0 && !v.f && v.b.isEmpty && v.l.isEmpty
  | .int => v.n == 0 && !v.f && v.b.isEmpty && v.l.isEmpty
  | .flag => v.n == 0 && v.i == 0 && v.b.isEmpty && v.l.isEmpty
  | .bytes => v.n == 0 && v.i == 0 && !v.f && v.l.isEmpty
  | .row => v.n == 0 && v.i == 0 && !v.f && v.b.isEmpty
def longV (v : WV) : Bool := decide (262144 < v.b.length) || decide (4096 < v.l.length)
def fitsS : List Kd → List WV → Bool
  | [], [] => true
  | k :: ks, v :: vs => fitsK k v && fitsS ks vs
  | _, _ => false
def putS : List Kd → List WV → List UInt8
  | k :: ks, v :: vs => putK k v ++ putS ks vs
  | _, _ => []
def putP (s : List UInt8) (l : List WV) : List UInt8 × Int :=
  match schemaP s with
  | none => ([], 2)
  | some ks => if fitsS ks l then (if l.any longV then ([], 3) else (putS ks l, 0)) else ([], 2)
end Go.Proofs.Ytoneechcclndaaa.Wire

namespace Go.Proofs.Ytoneechcclndaaa.Wire
open Go.RowKit Go.ChangeShapes Go.WideShapes Go.ChangeAt
set_option linter.unusedVariables false
set_option linter.unusedSimpArgs false
attribute [local go_sem ↓] Go.wp_at_zero Go.wp_at_succ
open Go.Shelf Go.Proofs.Ytoneechcclndaaa.Word

def encN (x : Nat) : List Value := [.int .u64 (x : Int)]
theorem encN_len (x : Nat) : (encN x).length = 1 := rfl
theorem encN_one (x : Nat) : ∀ u ∈ encN x, u.oneCell' = true := by simp [encN, Value.oneCell']

/-- a value as it lies in memory -/
structure Wr where
  v : WV
  bA : Option Addr
  bn : Nat
  bc : Nat
  lA : Option Addr
  ln : Nat
  lc : Nat
def Wr.cells (r : Wr) : List Value := [.int .u64 (r.v.n : Int), .int .i64 r.v.i, .bool r.v.f, .slice r.bA r.bn r.bc, .slice r.lA r.ln r.lc]
def Wr.agg (r : Wr) : Value := .agg #[.int .u64 (r.v.n : Int), .int .i64 r.v.i, .bool r.v.f, .slice r.bA r.bn r.bc, .slice r.lA r.ln r.lc]
theorem Wr.cells_len (r : Wr) : r.cells.length = 5 := rfl
theorem Wr.cells_one (r : Wr) : ∀ u ∈ r.cells, u.oneCell' = true := by simp [Wr.cells, Value.oneCell']
def wr0 : Wr := ⟨wv0, none, 0, 0, none, 0, 0⟩
def WV.Wf (v : WV) : Prop := v.n < p64 ∧ -9223372036854775808 ≤ v.i ∧ v.i ≤ 9223372036854775807 ∧ (∀ x ∈ v.l, x < p64) ∧ v.b.length ≤ 1000000 ∧ v.l.length ≤ 1000000
/-- it may be read, and its bytes and numbers may be written -/
structure Wr.Ok (w : World) (r : Wr) : Prop where
  b : OwnA w 5 1 encB (.slice r.bA r.bn r.bc) r.v.b
  l : OwnA w 34 1 encN (.slice r.lA r.ln r.lc) r.v.l
  wf : r.v.Wf
/-- in blocks that are not below -/
def Wr.From (B : Nat) (r : Wr) : Prop := (∀ k, blockOf r.bA = some k → B ≤ k) ∧ ∀ k, blockOf r.lA = some k → B ≤ k
theorem Wr.Ok.chg {S : Nat → Prop} {w w' : World} {r : Wr} (h : r.Ok w) (hc : Chg S w w') (hb : ∀ k, blockOf r.bA = some k → ¬ S k) (hl : ∀ k, blockOf r.lA = some k → ¬ S k) : r.Ok w' :=
  ⟨h.b.chg hc (fun g hg => hb g (by revert hg; cases r.bA <;> simp [Value.ownBlock, blockOf])), h.l.chg hc (fun g hg => hl g (by revert hg; cases r.lA <;> simp [Value.ownBlock, blockOf])), h.wf⟩
theorem Wr.Ok.ext {w w' : World} {r : Wr} (h : r.Ok w) (hb : Below w.heap.size w w') : r.Ok w' := ⟨h.b.ext hb, h.l.ext hb, h.wf⟩
theorem wv0_wf : wv0.Wf := ⟨by decide, by decide, by decide, by simp [wv0], by decide, by decide⟩

/-- what a taking function leaves -/
def RetTk (w : World) (x : Option (WV × Nat)) (e : Ending) (w' : World) : Prop :=
  Below w.heap.size w w' ∧ match x with
    | none => e = .returned (.tuple #[wr0.agg, .int .i64 0, .bool false])
    | some (v, u) => ∃ r : Wr, r.v = v ∧ e = .returned (.tuple #[r.agg, .int .i64 (u : Int), .bool true]) ∧ r.Ok w' ∧ r.From w.heap.size

theorem getAt_zero (l : List UInt8) : getAt l 0 = getW l := by
  unfold getAt
  cases l with
  | nil => rfl
  | cons d l => rw [if_neg (by simp)]; rfl

theorem wr0_agg : wr0.agg = .agg #[.int .u64 0, .int .i64 0, .bool false, .slice none 0 0, .slice none 0 0] := rfl
theorem Wr.Ok.bare (w : World) (v : WV) (hb : v.b = []) (hl : v.l = []) (hv : v.Wf) : Wr.Ok w ⟨v, none, 0, 0, none, 0, 0⟩ :=
  ⟨by rw [hb]; exact OwnA.nil_ _ _ _ _, by rw [hl]; exact OwnA.nil_ _ _ _ _, hv⟩
theorem Wr.From.bare (B : Nat) (v : WV) : Wr.From B ⟨v, none, 0, 0, none, 0, 0⟩ := ⟨(fun k h => by simp [blockOf] at h), (fun k h => by simp [blockOf] at h)⟩

/-- the box of a value that is being made -/
def mkV (r : Wr) : Array Value := #[.int .u64 (r.v.n : Int), .int .i64 r.v.i, .bool r.v.f, .slice r.bA r.bn r.bc, .slice r.lA r.ln r.lc]
def zV : Array Value := #[.int .u64 0, .int .i64 0, .bool false, .slice none 0 0, .slice none 0 0]

theorem blk_five {w : World} {g : Nat} {t : TypeId} {x0 x1 x2 x3 x4 : Value} (h : Blk w g t #[x0, x1, x2, x3, x4]) (a0 a1 a2 a3 a4 : Value) :
    Blk (((((w.setCell ⟨g, 0, none⟩ a0).setCell ⟨g, 1, none⟩ a1).setCell ⟨g, 2, none⟩ a2).setCell ⟨g, 3, none⟩ a3).setCell ⟨g, 4, none⟩ a4) g t #[a0, a1, a2, a3, a4] :=
  ((((h.set_ 0 a0).set_ 1 a1).set_ 2 a2).set_ 3 a3).set_ 4 a4
theorem below_five {w w1 : World} {g B : Nat} (h : Below B w w1) (hg : B ≤ g) (a0 a1 a2 a3 a4 : Value) :
    Below B w (((((w1.setCell ⟨g, 0, none⟩ a0).setCell ⟨g, 1, none⟩ a1).setCell ⟨g, 2, none⟩ a2).setCell ⟨g, 3, none⟩ a3).setCell ⟨g, 4, none⟩ a4) :=
  ((((h.setCell hg _).setCell hg _).setCell hg _).setCell hg _).setCell hg _

theorem chg_five {S : Nat → Prop} {w w1 : World} {g : Nat} (h : Chg S w w1) (hg : S g) (a0 a1 a2 a3 a4 : Value) :
    Chg S w (((((w1.setCell ⟨g, 0, none⟩ a0).setCell ⟨g, 1, none⟩ a1).setCell ⟨g, 2, none⟩ a2).setCell ⟨g, 3, none⟩ a3).setCell ⟨g, 4, none⟩ a4) :=
  ((((h.setCell (fun _ => hg) _).setCell (fun _ => hg) _).setCell (fun _ => hg) _).setCell (fun _ => hg) _).setCell (fun _ => hg) _

theorem natural_any (l : List UInt8) (A : Option Addr) (n cap : Nat) (w : World) (hl : BySl w w.heap.size A l) (hn : Hid (n = l.length)) (hc : n ≤ cap) (hm : n ≤ 1000000000000) :
    Calls Try.prog 97 #[.slice A n cap] w (RetTk w (takeK .nat l)) := by
  have hB0 : Below w.heap.size w (w.alloc (.cells zV 38)) := (by repeat (first | exact Below.refl _ _ | assumption | refine Below.drew ?_ | refine bdrewN ?_ _ | refine Below.alloc ?_ (by simp; try omega) _ | refine Below.setCell ?_ (by simp; try omega) _))
  have HL := Lib.hid (hl.ext hB0)
  have HZ := Lib.hid (And.intro (Blk.new w 38 zV) hB0)
  clear hl hB0
  have hg0 : getAt l 0 = getW l := getAt_zero l
  cases hg : getW l with
  | none =>
    have ht : Hid (takeK .nat l = none) := by unfold Hid takeK; rw [hg]; rfl
    have e0 : getV (getAt l 0) = .tuple #[.int .u64 0, .int .i64 0, .bool false] := by rw [hg0, hg]; rfl
    clear hg0 hg
    go_enter Try.func97, Try.ntmps97
    go_wp2_with (go_at_call 113; refine (get_any l A n cap 0 _ HL.out hn hc hm).mono ?_; rintro e w1 ⟨rfl, hb⟩; rw [e0]; have HB : Hid (Blk w1 w.heap.size 38 zV ∧ Below w.heap.size w w1) := ⟨HZ.out.1.ext hb, ext_under HZ.out.2 (Nat.le_refl _) hb⟩; clear hb; have c0 : w1.cell? ⟨w.heap.size, 0, none⟩ = some (.int .u64 0) := HB.out.1.cell 0; have c1 : w1.cell? ⟨w.heap.size, 1, none⟩ = some (.int .i64 0) := HB.out.1.cell 1; have c2 : w1.cell? ⟨w.heap.size, 2, none⟩ = some (.bool false) := HB.out.1.cell 2; have c3 : w1.cell? ⟨w.heap.size, 3, none⟩ = some (.slice none 0 0) := HB.out.1.cell 3; have c4 : w1.cell? ⟨w.heap.size, 4, none⟩ = some (.slice none 0 0) := HB.out.1.cell 4; have f0 := HB.out.1.free 0; have f1 := HB.out.1.free 1; have f2 := HB.out.1.free 2; have f3 := HB.out.1.free 3; have f4 := HB.out.1.free 4)
    have hF := blk_five (HB.out.1.set_ 0 (.int .u64 0)) (.int .u64 0) (.int .i64 0) (.bool false) (.slice none 0 0) (.slice none 0 0)
    have q0 := hF.cell 0
    have q1 := hF.cell 1
    have q2 := hF.cell 2
    have q3 := hF.cell 3
    have q4 := hF.cell 4
    refine bodyPost_ret (v := .tuple #[wr0.agg, .int .i64 0, .bool false]) ?_ rfl ⟨below_five (HB.out.2.setCell (Nat.le_refl _) _) (Nat.le_refl _) _ _ _ _ _, by rw [ht.out]⟩
    simp [results, Try.results97, go_sem, q0, q1, q2, q3, q4, wr0_agg]
  | some x =>
    obtain ⟨v, u⟩ := x
    have ht : Hid (takeK .nat l = some ({ wv0 with n := v }, u)) := by unfold Hid takeK; rw [hg]; rfl
    have e0 : getV (getAt l 0) = .tuple #[.int .u64 (v : Int), .int .i64 (u : Int), .bool true] := by rw [hg0, hg]; rfl
    have hv := Lib.hid (get_some hg).1
    clear hg0 hg
    go_enter Try.func97, Try.ntmps97
    go_wp2_with (go_at_call 113; refine (get_any l A n cap 0 _ HL.out hn hc hm).mono ?_; rintro e w1 ⟨rfl, hb⟩; rw [e0]; have HB : Hid (Blk w1 w.heap.size 38 zV ∧ Below w.heap.size w w1) := ⟨HZ.out.1.ext hb, ext_under HZ.out.2 (Nat.le_refl _) hb⟩; clear hb; have c0 : w1.cell? ⟨w.heap.size, 0, none⟩ = some (.int .u64 0) := HB.out.1.cell 0; have c1 : w1.cell? ⟨w.heap.size, 1, none⟩ = some (.int .i64 0) := HB.out.1.cell 1; have c2 : w1.cell? ⟨w.heap.size, 2, none⟩ = some (.bool false) := HB.out.1.cell 2; have c3 : w1.cell? ⟨w.heap.size, 3, none⟩ = some (.slice none 0 0) := HB.out.1.cell 3; have c4 : w1.cell? ⟨w.heap.size, 4, none⟩ = some (.slice none 0 0) := HB.out.1.cell 4; have f0 := HB.out.1.free 0; have f1 := HB.out.1.free 1; have f2 := HB.out.1.free 2; have f3 := HB.out.1.free 3; have f4 := HB.out.1.free 4)
    have hF := blk_five (HB.out.1.set_ 0 (.int .u64 (v : Int))) (.int .u64 (v : Int)) (.int .i64 0) (.bool false) (.slice none 0 0) (.slice none 0 0)
    have q0 := hF.cell 0
    have q1 := hF.cell 1
    have q2 := hF.cell 2
    have q3 := hF.cell 3
    have q4 := hF.cell 4
    refine bodyPost_ret (v := .tuple #[(⟨{ wv0 with n := v }, none, 0, 0, none, 0, 0⟩ : Wr).agg, .int .i64 (u : Int), .bool true]) ?_ rfl ⟨below_five (HB.out.2.setCell (Nat.le_refl _) _) (Nat.le_refl _) _ _ _ _ _, by
      rw [ht.out]
      exact ⟨⟨{ wv0 with n := v }, none, 0, 0, none, 0, 0⟩, rfl, rfl, Wr.Ok.bare _ _ rfl rfl ⟨hv.out, wv0_wf.2⟩, Wr.From.bare _ _⟩⟩
    simp [results, Try.results97, go_sem, q0, q1, q2, q3, q4, Wr.agg, wv0]
end Go.Proofs.Ytoneechcclndaaa.Wire

namespace Go.Proofs.Ytoneechcclndaaa.Wire
open Go.RowKit Go.ChangeShapes Go.WideShapes Go.ChangeAt
set_option linter.unusedVariables false
set_option linter.unusedSimpArgs false
attribute [local go_sem ↓] Go.wp_at_zero Go.wp_at_succ
open Go.Shelf Go.Proofs.Ytoneechcclndaaa.Word

theorem integer_any (l : List UInt8) (A : Option Addr) (n cap : Nat) (w : World) (hl : BySl w w.heap.size A l) (hn : Hid (n = l.length)) (hc : n ≤ cap) (hm : n ≤ 1000000000000) :
    Calls Try.prog 100 #[.slice A n cap] w (RetTk w (takeK .int l)) := by
  have hB0 : Below w.heap.size w (w.alloc (.cells zV 38)) := (by repeat (first | exact Below.refl _ _ | assumption | refine Below.drew ?_ | refine bdrewN ?_ _ | refine Below.alloc ?_ (by simp; try omega) _ | refine Below.setCell ?_ (by simp; try omega) _))
  have HL := Lib.hid (hl.ext hB0)
  have HZ := Lib.hid (And.intro (Blk.new w 38 zV) hB0)
  clear hl hB0
  have hg0 : getAt l 0 = getW l := getAt_zero l
  cases hg : getW l with
  | none =>
    have ht : Hid (takeK .int l = none) := by unfold Hid takeK; rw [hg]; rfl
    have e0 : getV (getAt l 0) = .tuple #[.int .u64 0, .int .i64 0, .bool false] := by rw [hg0, hg]; rfl
    have hU := fun w => unfold_any 0 (by decide) w
    have u0 : unfoldZ 0 = 0 := by decide
    rw [u0] at hU
    clear hg0 hg
    go_enter Try.func100, Try.ntmps100
    go_wp2_with (first | (go_at_call 113; refine (get_any l A n cap 0 _ HL.out hn hc hm).mono ?_; rintro e w1 ⟨rfl, hb⟩; rw [e0]; have HB : Hid (Blk w1 w.heap.size 38 zV ∧ Below w.heap.size w w1) := ⟨HZ.out.1.ext hb, ext_under HZ.out.2 (Nat.le_refl _) hb⟩; clear hb; have c0 : w1.cell? ⟨w.heap.size, 0, none⟩ = some (.int .u64 0) := HB.out.1.cell 0; have c1 : w1.cell? ⟨w.heap.size, 1, none⟩ = some (.int .i64 0) := HB.out.1.cell 1; have c2 : w1.cell? ⟨w.heap.size, 2, none⟩ = some (.bool false) := HB.out.1.cell 2; have c3 : w1.cell? ⟨w.heap.size, 3, none⟩ = some (.slice none 0 0) := HB.out.1.cell 3; have c4 : w1.cell? ⟨w.heap.size, 4, none⟩ = some (.slice none 0 0) := HB.out.1.cell 4; have f0 := HB.out.1.free 0; have f1 := HB.out.1.free 1; have f2 := HB.out.1.free 2; have f3 := HB.out.1.free 3; have f4 := HB.out.1.free 4) | (go_at_call 114; refine (hU _).mono ?_; rintro e w' ⟨rfl, rfl⟩))
    have hF := blk_five (HB.out.1.set_ 1 (.int .i64 0)) (.int .u64 0) (.int .i64 0) (.bool false) (.slice none 0 0) (.slice none 0 0); have q0 := hF.cell 0; have q1 := hF.cell 1; have q2 := hF.cell 2; have q3 := hF.cell 3; have q4 := hF.cell 4; clear hF
    refine bodyPost_ret (v := .tuple #[wr0.agg, .int .i64 0, .bool false]) ?_ rfl ⟨below_five (HB.out.2.setCell (Nat.le_refl _) _) (Nat.le_refl _) _ _ _ _ _, by rw [ht.out]⟩
    simp [results, Try.results100, go_sem, q0, q1, q2, q3, q4, wr0_agg]
  | some x =>
    obtain ⟨v, u⟩ := x
    have ht : Hid (takeK .int l = some ({ wv0 with i := unfoldZ v }, u)) := by unfold Hid takeK; rw [hg]; rfl
    have e0 : getV (getAt l 0) = .tuple #[.int .u64 (v : Int), .int .i64 (u : Int), .bool true] := by rw [hg0, hg]; rfl
    have hv := Lib.hid (get_some hg).1
    have hbd := Lib.hid (unfold_bd hv.out)
    have hU := fun w => unfold_any v hv.out w
    obtain ⟨z, hz⟩ : ∃ z, z = unfoldZ v := ⟨_, rfl⟩
    rw [← hz] at hU ht hbd
    clear hg0 hg hz
    go_enter Try.func100, Try.ntmps100
    go_wp2_with (first | (go_at_call 113; refine (get_any l A n cap 0 _ HL.out hn hc hm).mono ?_; rintro e w1 ⟨rfl, hb⟩; rw [e0]; have HB : Hid (Blk w1 w.heap.size 38 zV ∧ Below w.heap.size w w1) := ⟨HZ.out.1.ext hb, ext_under HZ.out.2 (Nat.le_refl _) hb⟩; clear hb; have c0 : w1.cell? ⟨w.heap.size, 0, none⟩ = some (.int .u64 0) := HB.out.1.cell 0; have c1 : w1.cell? ⟨w.heap.size, 1, none⟩ = some (.int .i64 0) := HB.out.1.cell 1; have c2 : w1.cell? ⟨w.heap.size, 2, none⟩ = some (.bool false) := HB.out.1.cell 2; have c3 : w1.cell? ⟨w.heap.size, 3, none⟩ = some (.slice none 0 0) := HB.out.1.cell 3; have c4 : w1.cell? ⟨w.heap.size, 4, none⟩ = some (.slice none 0 0) := HB.out.1.cell 4; have f0 := HB.out.1.free 0; have f1 := HB.out.1.free 1; have f2 := HB.out.1.free 2; have f3 := HB.out.1.free 3; have f4 := HB.out.1.free 4) | (go_at_call 114; refine (hU _).mono ?_; rintro e w' ⟨rfl, rfl⟩))
    have hF := blk_five (HB.out.1.set_ 1 (.int .i64 z)) (.int .u64 0) (.int .i64 z) (.bool false) (.slice none 0 0) (.slice none 0 0); have q0 := hF.cell 0; have q1 := hF.cell 1; have q2 := hF.cell 2; have q3 := hF.cell 3; have q4 := hF.cell 4; clear hF
    refine bodyPost_ret (v := .tuple #[(⟨{ wv0 with i := z }, none, 0, 0, none, 0, 0⟩ : Wr).agg, .int .i64 (u : Int), .bool true]) ?_ rfl ⟨below_five (HB.out.2.setCell (Nat.le_refl _) _) (Nat.le_refl _) _ _ _ _ _, by
      rw [ht.out]
      exact ⟨⟨{ wv0 with i := z }, none, 0, 0, none, 0, 0⟩, rfl, rfl, Wr.Ok.bare _ _ rfl rfl ⟨wv0_wf.1, hbd.out.1, hbd.out.2, wv0_wf.2.2.2⟩, Wr.From.bare _ _⟩⟩
    simp [results, Try.results100, go_sem, q0, q1, q2, q3, q4, Wr.agg, wv0]

set_option maxHeartbeats 2000000 in
theorem flag_any (l : List UInt8) (A : Option Addr) (n cap : Nat) (w : World) (hl : BySl w w.heap.size A l) (hn : Hid (n = l.length)) (hm : n ≤ 1000000000000) :
    Calls Try.prog 102 #[.slice A n cap] w (RetTk w (takeK .flag l)) := by
  cases l with
  | nil =>
    have hn0 : n = 0 := hn.out
    subst hn0
    have ht : Hid (takeK .flag [] = none) := rfl
    clear hl
    go_enter Try.func102, Try.ntmps102
    go_wp2
    refine bodyPost_ret (v := .tuple #[wr0.agg, .int .i64 0, .bool false]) ?_ rfl ⟨(by repeat (first | exact Below.refl _ _ | assumption | refine Below.drew ?_ | refine bdrewN ?_ _ | refine Below.alloc ?_ (by simp; try omega) _ | refine Below.setCell ?_ (by simp; try omega) _)), by rw [ht.out]⟩
    simp [results, Try.results102, go_sem, wr0_agg]
  | cons d l =>
    obtain ⟨bb, off, rfl, hbb, c0⟩ := BySl.at_ hl (k := 0) (b := d) rfl
    have c9 : (w.alloc (.cells zV 38)).cell? ⟨bb, off, none⟩ = some (.int .u8 (d.toNat : Int)) := (World.cell?_alloc_lt w _ ⟨bb, off, none⟩ hbb).trans c0
    unfold zV at c9
    have c8 : bb ≠ w.heap.size := by omega
    have n0 : ((n : Int) == 0) = false := by have := hn.out; rw [List.length_cons] at this; simp; omega
    have n1 : (0 : Int) < (n : Int) := by have := hn.out; rw [List.length_cons] at this; omega
    clear hl c0
    by_cases hd : d.toNat ≤ 1
    · have ht : Hid (takeK .flag (d :: l) = some ({ wv0 with f := d.toNat == 1 }, 1)) := by unfold Hid takeK; simp only; rw [if_pos hd]
      have d1 : decide ((1 : Int) < (d.toNat : Int)) = false := decide_eq_false (by omega)
      have d2 : ((d.toNat : Int) == 1) = (d.toNat == 1) := by rw [Bool.eq_iff_iff]; simp; omega
      obtain ⟨q, hq⟩ : ∃ q, (d.toNat == 1) = q := ⟨_, rfl⟩
      rw [hq] at d2 ht
      clear hq
      go_enter Try.func102, Try.ntmps102
      go_wp2
      refine bodyPost_ret (v := .tuple #[(⟨{ wv0 with f := q }, none, 0, 0, none, 0, 0⟩ : Wr).agg, .int .i64 1, .bool true]) ?_ rfl ⟨(by repeat (first | exact Below.refl _ _ | assumption | refine Below.drew ?_ | refine bdrewN ?_ _ | refine Below.alloc ?_ (by simp; try omega) _ | refine Below.setCell ?_ (by simp; try omega) _)), by
        rw [ht.out]
        exact ⟨⟨{ wv0 with f := q }, none, 0, 0, none, 0, 0⟩, rfl, rfl, Wr.Ok.bare _ _ rfl rfl wv0_wf, Wr.From.bare _ _⟩⟩
      simp [results, Try.results102, go_sem, Wr.agg, wv0]
    · have ht : Hid (takeK .flag (d :: l) = none) := by unfold Hid takeK; simp only; rw [if_neg hd]
      have d1 : decide ((1 : Int) < (d.toNat : Int)) = true := decide_eq_true (by omega)
      go_enter Try.func102, Try.ntmps102
      go_wp2
      refine bodyPost_ret (v := .tuple #[wr0.agg, .int .i64 0, .bool false]) ?_ rfl ⟨(by repeat (first | exact Below.refl _ _ | assumption | refine Below.drew ?_ | refine bdrewN ?_ _ | refine Below.alloc ?_ (by simp; try omega) _ | refine Below.setCell ?_ (by simp; try omega) _)), by rw [ht.out]⟩
      simp [results, Try.results102, go_sem, wr0_agg]
end Go.Proofs.Ytoneechcclndaaa.Wire

namespace Go.Proofs.Ytoneechcclndaaa.Wire
open Go.RowKit Go.ChangeShapes Go.WideShapes Go.ChangeAt
set_option linter.unusedVariables false
set_option linter.unusedSimpArgs false
attribute [local go_sem ↓] Go.wp_at_zero Go.wp_at_succ
open Go.Shelf Go.Proofs.Ytoneechcclndaaa.Word

theorem Sl.some_of {α : Type} {w : World} {B c : Nat} {enc : α → List Value} {A : Option Addr} {l : List α} (h : Sl w B c enc A l) (hl : l ≠ []) : ∃ b off, A = some ⟨b, off, none⟩ := by
  obtain ⟨b, off, hA, _⟩ := h hl
  exact ⟨b, off, hA⟩
theorem cutA_some (a : Addr) (cap k c : Nat) : ∃ a', cutA (some a) cap k c = some a' := by
  unfold cutA; split <;> exact ⟨_, rfl⟩
theorem getW_ne {l : List UInt8} {x : Nat × Nat} (h : getW l = some x) : l ≠ [] := by
  rintro rfl; cases h

set_option maxHeartbeats 2000000 in
theorem some_any (l : List UInt8) (A : Option Addr) (n cap : Nat) (w : World) (hl : BySl w w.heap.size A l) (hn : Hid (n = l.length)) (hc : n ≤ cap) (hm : n ≤ 1000000000000) :
    Calls Try.prog 105 #[.slice A n cap] w (RetTk w (takeK .bytes l)) := by
  have hB0 : Below w.heap.size w (w.alloc (.cells zV 38)) := (by repeat (first | exact Below.refl _ _ | assumption | refine Below.drew ?_ | refine bdrewN ?_ _ | refine Below.alloc ?_ (by simp; try omega) _ | refine Below.setCell ?_ (by simp; try omega) _))
  have HL := Lib.hid (hl.ext hB0)
  have HZ := Lib.hid (And.intro (Blk.new w 38 zV) hB0)
  have hg0 : getAt l 0 = getW l := getAt_zero l
  cases hg : getW l with
  | none =>
    have ht : Hid (takeK .bytes l = none) := by unfold Hid takeK; rw [hg]
    have e0 : getV (getAt l 0) = .tuple #[.int .u64 0, .int .i64 0, .bool false] := by rw [hg0, hg]; rfl
    clear hg0 hg hl hB0
    go_enter Try.func105, Try.ntmps105
    go_wp2_with (go_at_call 113; refine (get_any l A n cap 0 _ HL.out hn hc hm).mono ?_; rintro e w1 ⟨rfl, hb⟩; rw [e0]; have HB : Hid (Blk w1 w.heap.size 38 zV ∧ Below w.heap.size w w1) := ⟨HZ.out.1.ext hb, ext_under HZ.out.2 (Nat.le_refl _) hb⟩; clear hb; have c0 : w1.cell? ⟨w.heap.size, 0, none⟩ = some (.int .u64 0) := HB.out.1.cell 0; have c1 : w1.cell? ⟨w.heap.size, 1, none⟩ = some (.int .i64 0) := HB.out.1.cell 1; have c2 : w1.cell? ⟨w.heap.size, 2, none⟩ = some (.bool false) := HB.out.1.cell 2; have c3 : w1.cell? ⟨w.heap.size, 3, none⟩ = some (.slice none 0 0) := HB.out.1.cell 3; have c4 : w1.cell? ⟨w.heap.size, 4, none⟩ = some (.slice none 0 0) := HB.out.1.cell 4; have f0 := HB.out.1.free 0; have f1 := HB.out.1.free 1; have f2 := HB.out.1.free 2; have f3 := HB.out.1.free 3; have f4 := HB.out.1.free 4)
    have hF := blk_five (HB.out.1) (.int .u64 0) (.int .i64 0) (.bool false) (.slice none 0 0) (.slice none 0 0); have q0 := hF.cell 0; have q1 := hF.cell 1; have q2 := hF.cell 2; have q3 := hF.cell 3; have q4 := hF.cell 4; clear hF
    refine bodyPost_ret (v := .tuple #[wr0.agg, .int .i64 0, .bool false]) ?_ rfl ⟨below_five HB.out.2 (Nat.le_refl _) _ _ _ _ _, by rw [ht.out]⟩
    simp [results, Try.results105, go_sem, q0, q1, q2, q3, q4, wr0_agg]
  | some x =>
    obtain ⟨v, u⟩ := x
    have e0 : getV (getAt l 0) = .tuple #[.int .u64 (v : Int), .int .i64 (u : Int), .bool true] := by rw [hg0, hg]; rfl
    have hs := get_some hg
    have hv := hs.1
    have hu := hs.2.2.2.1
    obtain ⟨ab, ao, rfl⟩ := Sl.some_of hl (getW_ne hg)
    by_cases hbig : v ≤ 262144
    · have d1 : decide ((262144 : Int) < (v : Int)) = false := decide_eq_false (by omega)
      have e1 : IntKind.i64.wrap (v : Int) = (v : Int) := IntWalk.i64_in _ (by omega)
      have e2 : IntKind.i64.wrap ((n : Int) - (u : Int)) = (n : Int) - (u : Int) := IntWalk.i64_in _ (by have := hn.out; omega)
      by_cases hfit : v ≤ n - u
      · have ht : Hid (takeK .bytes l = some ({ wv0 with b := (l.drop u).take v }, u + v)) := by unfold Hid takeK; rw [hg]; simp only; rw [if_pos ⟨hbig, by rw [← hn.out]; exact hfit⟩]
        have d2 : decide ((n : Int) - (u : Int) < (v : Int)) = false := decide_eq_false (by have := hn.out; omega)
        have e3 : IntKind.i64.wrap ((u : Int) + (v : Int)) = ((u + v : Nat) : Int) := by rw [IntWalk.i64_in _ (by have := hn.out; omega)]; omega
        have hun : u + v ≤ n := by have := hn.out; omega
        obtain ⟨t, htt⟩ : ∃ t, t = u + v := ⟨_, rfl⟩
        have hlh : ∀ W, (Instr.slice 25 (.slice (some ⟨ab, ao, none⟩) n cap) (some (.int .i64 (u : Int))) (some (.int .i64 (t : Int))) none).run Try.prog W = .ok (.slice (cutA (some ⟨ab, ao, none⟩) cap u 1) v (cap - u)) W := fun W => by
          have := run_slice_lohi (c := 1) Try.underlying25 (Option.isSome_iff_exists.1 (by kernel_rfl)) (by kernel_rfl) (some ⟨ab, ao, none⟩) n cap (u : Int) (t : Int) (by omega) (by omega) (by omega) W
          have h5 : (t : Int).toNat - (u : Int).toNat = v := by omega
          rw [h5, Int.toNat_natCast] at this
          exact this
        have hT : Hid (Sl w w.heap.size 1 encB (cutA (some ⟨ab, ao, none⟩) cap u 1) ((l.drop u).take v) ∧ v = ((l.drop u).take v).length) := by
          refine ⟨(Sl.cut hl cap u (by rw [← hn.out]; exact hc)).take v, ?_⟩
          rw [List.length_take, List.length_drop, ← hn.out]; omega
        obtain ⟨ca, hca⟩ := cutA_some ⟨ab, ao, none⟩ cap u 1
        rw [hca] at hlh hT
        have hle : v ≤ cap - u := by omega
        have hclone : ∀ W, Hid (Below w.heap.size w W) → Calls Try.prog 116 #[.slice (some ca) v (cap - u)] W (RetA W 5 1 encB ((l.drop u).take v)) := fun W hW =>
          bytesClone_any ((l.drop u).take v) (some ca) v (cap - u) W (hT.out.1.ext hW.out) (by rw [← hT.out.2]; omega) hT.out.2 (fun h => by cases h) hle
        rw [← htt] at e3 ht
        have hlt2 : Hid (((l.drop u).take v).length ≤ 1000000) := by rw [Hid, ← hT.out.2]; omega
        clear hg0 hg hl hB0 hs htt hT
        go_enter Try.func105, Try.ntmps105
        go_wp2_with (first | (go_at_call 113; refine (get_any l (some ⟨ab, ao, none⟩) n cap 0 _ HL.out hn hc hm).mono ?_; rintro e w1 ⟨rfl, hb⟩; rw [e0]; have HB : Hid (Blk w1 w.heap.size 38 zV ∧ Below w.heap.size w w1) := ⟨HZ.out.1.ext hb, ext_under HZ.out.2 (Nat.le_refl _) hb⟩; clear hb; have c0 : w1.cell? ⟨w.heap.size, 0, none⟩ = some (.int .u64 0) := HB.out.1.cell 0; have c1 : w1.cell? ⟨w.heap.size, 1, none⟩ = some (.int .i64 0) := HB.out.1.cell 1; have c2 : w1.cell? ⟨w.heap.size, 2, none⟩ = some (.bool false) := HB.out.1.cell 2; have c3 : w1.cell? ⟨w.heap.size, 3, none⟩ = some (.slice none 0 0) := HB.out.1.cell 3; have c4 : w1.cell? ⟨w.heap.size, 4, none⟩ = some (.slice none 0 0) := HB.out.1.cell 4; have f0 := HB.out.1.free 0; have f1 := HB.out.1.free 1; have f2 := HB.out.1.free 2; have f3 := HB.out.1.free 3; have f4 := HB.out.1.free 4) | (go_at_call 116; refine (hclone _ (Lib.hid HB.out.2)).mono ?_; rintro e w2 ⟨v2, rfl, hown2, hfr2, hb2⟩; obtain ⟨A2, n2, c2', rfl, hn2, hle2, hmx2, hnil2⟩ := hown2.form; have HC : Hid (Blk w2 w.heap.size 38 zV ∧ Below w.heap.size w w2) := ⟨HB.out.1.ext hb2, ext_under HB.out.2 (Nat.le_refl _) hb2⟩; have HO := Lib.hid (And.intro hown2 (And.intro hfr2 HB.out.1.lt)); clear hown2 hfr2 hb2; have k0 : w2.cell? ⟨w.heap.size, 0, none⟩ = some (.int .u64 0) := HC.out.1.cell 0; have k1 : w2.cell? ⟨w.heap.size, 1, none⟩ = some (.int .i64 0) := HC.out.1.cell 1; have k2 : w2.cell? ⟨w.heap.size, 2, none⟩ = some (.bool false) := HC.out.1.cell 2; have k3 : w2.cell? ⟨w.heap.size, 3, none⟩ = some (.slice none 0 0) := HC.out.1.cell 3; have k4 : w2.cell? ⟨w.heap.size, 4, none⟩ = some (.slice none 0 0) := HC.out.1.cell 4; have g0 := HC.out.1.free 0; have g1 := HC.out.1.free 1; have g2 := HC.out.1.free 2; have g3 := HC.out.1.free 3; have g4 := HC.out.1.free 4))
        have HOK : Hid (Wr.Ok (((((((w2.setCell ⟨w.heap.size, 3, none⟩ (.slice A2 n2 c2')).setCell ⟨w.heap.size, 0, none⟩ (.int .u64 0)).setCell ⟨w.heap.size, 1, none⟩ (.int .i64 0)).setCell ⟨w.heap.size, 2, none⟩ (.bool false)).setCell ⟨w.heap.size, 3, none⟩ (.slice A2 n2 c2')).setCell ⟨w.heap.size, 4, none⟩ (.slice none 0 0))) ⟨{ wv0 with b := (l.drop u).take v }, A2, n2, c2', none, 0, 0⟩) := by
          refine ⟨HO.out.1.chg (chg_five ((Chg.refl (fun k => k = w.heap.size) w2).setCell (p := ⟨w.heap.size, 3, none⟩) (fun _ => rfl) _) rfl _ _ _ _ _) (fun k hk h => ?_), OwnA.nil_ _ _ _ _, wv0_wf.1, wv0_wf.2.1, wv0_wf.2.2.1, wv0_wf.2.2.2.1, hlt2.out, wv0_wf.2.2.2.2.2⟩
          have := HO.out.2.1 k hk
          have := HO.out.2.2
          omega
        have hF := blk_five (HC.out.1.set_ 3 (.slice A2 n2 c2')) (.int .u64 0) (.int .i64 0) (.bool false) (.slice A2 n2 c2') (.slice none 0 0); have q0 := hF.cell 0; have q1 := hF.cell 1; have q2 := hF.cell 2; have q3 := hF.cell 3; have q4 := hF.cell 4; clear hF
        refine bodyPost_ret (v := .tuple #[(⟨{ wv0 with b := (l.drop u).take v }, A2, n2, c2', none, 0, 0⟩ : Wr).agg, .int .i64 (t : Int), .bool true]) ?_ rfl ⟨below_five (HC.out.2.setCell (Nat.le_refl _) _) (Nat.le_refl _) _ _ _ _ _, by
          rw [ht.out]
          refine ⟨⟨{ wv0 with b := (l.drop u).take v }, A2, n2, c2', none, 0, 0⟩, rfl, rfl, HOK.out, fun k hk => ?_, fun k hk => by simp [blockOf] at hk⟩
          have := HO.out.2.1 k (by revert hk; cases A2 <;> simp [Value.ownBlock, blockOf])
          have := HO.out.2.2
          omega⟩
        simp [results, Try.results105, go_sem, q0, q1, q2, q3, q4, Wr.agg, wv0]
      · have ht : Hid (takeK .bytes l = none) := by unfold Hid takeK; rw [hg]; simp only; rw [if_neg (fun h => hfit (by rw [hn.out]; exact h.2))]
        have d2 : decide ((n : Int) - (u : Int) < (v : Int)) = true := decide_eq_true (by have := hn.out; omega)
        clear hg0 hg hl hB0 hs
        go_enter Try.func105, Try.ntmps105
        go_wp2_with (go_at_call 113; refine (get_any l (some ⟨ab, ao, none⟩) n cap 0 _ HL.out hn hc hm).mono ?_; rintro e w1 ⟨rfl, hb⟩; rw [e0]; have HB : Hid (Blk w1 w.heap.size 38 zV ∧ Below w.heap.size w w1) := ⟨HZ.out.1.ext hb, ext_under HZ.out.2 (Nat.le_refl _) hb⟩; clear hb; have c0 : w1.cell? ⟨w.heap.size, 0, none⟩ = some (.int .u64 0) := HB.out.1.cell 0; have c1 : w1.cell? ⟨w.heap.size, 1, none⟩ = some (.int .i64 0) := HB.out.1.cell 1; have c2 : w1.cell? ⟨w.heap.size, 2, none⟩ = some (.bool false) := HB.out.1.cell 2; have c3 : w1.cell? ⟨w.heap.size, 3, none⟩ = some (.slice none 0 0) := HB.out.1.cell 3; have c4 : w1.cell? ⟨w.heap.size, 4, none⟩ = some (.slice none 0 0) := HB.out.1.cell 4; have f0 := HB.out.1.free 0; have f1 := HB.out.1.free 1; have f2 := HB.out.1.free 2; have f3 := HB.out.1.free 3; have f4 := HB.out.1.free 4)
        have hF := blk_five (HB.out.1) (.int .u64 0) (.int .i64 0) (.bool false) (.slice none 0 0) (.slice none 0 0); have q0 := hF.cell 0; have q1 := hF.cell 1; have q2 := hF.cell 2; have q3 := hF.cell 3; have q4 := hF.cell 4; clear hF
        refine bodyPost_ret (v := .tuple #[wr0.agg, .int .i64 0, .bool false]) ?_ rfl ⟨below_five HB.out.2 (Nat.le_refl _) _ _ _ _ _, by rw [ht.out]⟩
        simp [results, Try.results105, go_sem, q0, q1, q2, q3, q4, wr0_agg]
    · have ht : Hid (takeK .bytes l = none) := by unfold Hid takeK; rw [hg]; simp only; rw [if_neg (fun h => hbig h.1)]
      have d1 : decide ((262144 : Int) < (v : Int)) = true := decide_eq_true (by omega)
      clear hg0 hg hl hB0 hs
      go_enter Try.func105, Try.ntmps105
      go_wp2_with (go_at_call 113; refine (get_any l (some ⟨ab, ao, none⟩) n cap 0 _ HL.out hn hc hm).mono ?_; rintro e w1 ⟨rfl, hb⟩; rw [e0]; have HB : Hid (Blk w1 w.heap.size 38 zV ∧ Below w.heap.size w w1) := ⟨HZ.out.1.ext hb, ext_under HZ.out.2 (Nat.le_refl _) hb⟩; clear hb; have c0 : w1.cell? ⟨w.heap.size, 0, none⟩ = some (.int .u64 0) := HB.out.1.cell 0; have c1 : w1.cell? ⟨w.heap.size, 1, none⟩ = some (.int .i64 0) := HB.out.1.cell 1; have c2 : w1.cell? ⟨w.heap.size, 2, none⟩ = some (.bool false) := HB.out.1.cell 2; have c3 : w1.cell? ⟨w.heap.size, 3, none⟩ = some (.slice none 0 0) := HB.out.1.cell 3; have c4 : w1.cell? ⟨w.heap.size, 4, none⟩ = some (.slice none 0 0) := HB.out.1.cell 4; have f0 := HB.out.1.free 0; have f1 := HB.out.1.free 1; have f2 := HB.out.1.free 2; have f3 := HB.out.1.free 3; have f4 := HB.out.1.free 4)
      have hF := blk_five (HB.out.1) (.int .u64 0) (.int .i64 0) (.bool false) (.slice none 0 0) (.slice none 0 0); have q0 := hF.cell 0; have q1 := hF.cell 1; have q2 := hF.cell 2; have q3 := hF.cell 3; have q4 := hF.cell 4; clear hF
      refine bodyPost_ret (v := .tuple #[wr0.agg, .int .i64 0, .bool false]) ?_ rfl ⟨below_five HB.out.2 (Nat.le_refl _) _ _ _ _ _, by rw [ht.out]⟩
      simp [results, Try.results105, go_sem, q0, q1, q2, q3, q4, wr0_agg]
end Go.Proofs.Ytoneechcclndaaa.Wire

namespace Go.Proofs.Ytoneechcclndaaa.Wire
open Go.RowKit Go.ChangeShapes Go.WideShapes Go.ChangeAt
set_option linter.unusedVariables false
set_option linter.unusedSimpArgs false
attribute [local go_sem ↓] Go.wp_at_zero Go.wp_at_succ
open Go.Shelf Go.Proofs.Ytoneechcclndaaa.Word

theorem nInfo : (Try.prog.info? 34).map (fun i => (i.zero, i.size, i.bytes)) = some (some (.int .u64 0), 1, 8) := by kernel_rfl
theorem lit_nat (w : World) (x : Nat) (t : TypeId) : Sl (w.alloc (.cells #[.int .u64 (x : Int)] t)) (w.alloc (.cells #[.int .u64 (x : Int)] t)).heap.size 1 encN (some ⟨w.heap.size, 0, none⟩) [x] := by
  intro _
  refine ⟨w.heap.size, 0, rfl, by simp, fun k y hy j v hv => ?_⟩
  have hj : j = 0 := by
    rcases j with _ | j
    · rfl
    · simp [encN] at hv
  have hk : k = 0 := by
    rcases k with _ | k
    · rfl
    · simp at hy
  subst hj
  subst hk
  simp only [encN, List.getElem?_cons_zero, Option.some.injEq] at hv hy
  subst hv
  subst hy
  rw [(Blk.new w t _).cell]
  rfl
theorem getAt_nat (l : List UInt8) (k : Nat) : getAt l (k : Int) = getW (l.drop k) := by
  unfold getAt
  split
  · rw [List.drop_of_length_le (by omega)]; rfl
  · simp

/-- how far numbers has come: j of m are taken, d bytes -/
structure NI (l : List UInt8) (u m j d : Nat) (xs : List Nat) : Prop where
  eq : takeL m (l.drop u) = (takeL (m - j) (l.drop (u + d))).map fun (ys, k) => (xs ++ ys, d + k)
  len : xs.length = j
  wf : ∀ x ∈ xs, x < p64
  le : u + d ≤ l.length
theorem NI.none {l : List UInt8} {u m j d : Nat} {xs : List Nat} (h : NI l u m j d xs) (hj : j < m) (hg : getW (l.drop (u + d)) = none) : takeL m (l.drop u) = none := by
  rw [h.eq, show m - j = (m - j - 1) + 1 from by omega, takeL, hg]; rfl
theorem NI.next {l : List UInt8} {u m j d x k : Nat} {xs : List Nat} (h : NI l u m j d xs) (hj : j < m) (hg : getW (l.drop (u + d)) = some (x, k)) : NI l u m (j + 1) (d + k) (xs ++ [x]) := by
  have hs := get_some hg
  have hle := hs.2.2.2.1
  rw [List.length_drop] at hle
  refine ⟨?_, by simp [h.len], ?_, by have := h.le; omega⟩
  · rw [h.eq, show m - j = (m - (j + 1)) + 1 from by omega, takeL, hg]
    simp only [List.drop_drop, ← Nat.add_assoc]
    cases takeL (m - (j + 1)) (l.drop (u + d + k)) with
    | none => rfl
    | some y => obtain ⟨ys, t⟩ := y; simp [Nat.add_assoc]
  · intro y hy
    rcases List.mem_append.1 hy with hy | hy
    · exact h.wf y hy
    · rw [List.mem_singleton] at hy; subst hy; exact hs.1
theorem NI.done {l : List UInt8} {u m d : Nat} {xs : List Nat} (h : NI l u m m d xs) : takeL m (l.drop u) = some (xs, d) := by
  rw [h.eq, Nat.sub_self, takeL]; simp

/-- the box of the value that numbers makes -/
structure NB (w wr : World) (A : Option Addr) (n c : Nat) (xs : List Nat) : Prop where
  blk : Blk wr w.heap.size 38 #[.int .u64 0, .int .i64 0, .bool false, .slice none 0 0, .slice A n c]
  own : OwnA wr 34 1 encN (.slice A n c) xs
  fr : ∀ k, (Value.slice A n c).ownBlock = some k → w.heap.size < k
  be : Below w.heap.size w wr
theorem NB.ext {w wr w1 : World} {A : Option Addr} {n c : Nat} {xs : List Nat} (h : NB w wr A n c xs) (hb : Below wr.heap.size wr w1) : NB w w1 A n c xs :=
  ⟨h.blk.ext hb, h.own.ext hb, h.fr, ext_under h.be (Nat.le_refl _) hb⟩
/-- behind an append to what the box holds -/
theorem NB.appended {w w1 w2 : World} {o : Obj} {A A' : Option Addr} {n c n' c' : Nat} {xs ys : List Nat} (h : NB w w1 A n c xs) (hown : OwnA w2 34 1 encN (.slice A' n' c') ys)
    (hc : Chg (fun k => (Value.slice A n c).ownBlock = some k) (w1.alloc o) w2) (hat : (Value.slice A' n' c').ownBlock = (Value.slice A n c).ownBlock ∨ (Value.slice A' n' c').ownBlock = some (w1.alloc o).heap.size) :
    Blk w2 w.heap.size 38 #[.int .u64 0, .int .i64 0, .bool false, .slice none 0 0, .slice A n c] ∧ NB w (w2.setCell ⟨w.heap.size, 4, none⟩ (.slice A' n' c')) A' n' c' ys := by
  have hfr : ∀ k, (Value.slice A' n' c').ownBlock = some k → w.heap.size < k := fun k hk => by
    rcases hat with hat | hat
    · exact h.fr k (hat ▸ hk)
    · rw [hat] at hk
      injection hk with hk
      have := h.blk.lt
      rw [World.size_alloc] at hk
      omega
  have hb2 : Blk w2 w.heap.size 38 #[.int .u64 0, .int .i64 0, .bool false, .slice none 0 0, .slice A n c] := (h.blk.alloc o).chg hc (fun hk => by have := h.fr _ hk; omega)
  refine ⟨hb2, hb2.set_ 4 _, hown.chg ((Chg.refl (fun k => k = w.heap.size) w2).setCell (p := ⟨w.heap.size, 4, none⟩) (fun _ => rfl) _) (fun k hk e => by have := hfr k hk; omega), hfr, ?_⟩
  have h1 : Below w.heap.size w (w1.alloc o) := h.be.alloc h.be.size _
  have h2 : Below w.heap.size w w2 := h1.trans (hc.below h1.size (fun i hi hs => by have := h.fr _ hs; omega))
  exact h2.setCell (p := ⟨w.heap.size, 4, none⟩) (Nat.le_refl _) _

set_option maxHeartbeats 4000000 in
set_option maxRecDepth 100000 in
theorem numbers_any (l : List UInt8) (A : Option Addr) (n cap : Nat) (w : World) (hl : BySl w w.heap.size A l) (hn : Hid (n = l.length)) (hc : n ≤ cap) (hm : n ≤ 1000000000000) :
    Calls Try.prog 108 #[.slice A n cap] w (RetTk w (takeK .row l)) := by
  have hB0 : Below w.heap.size w (w.alloc (.cells zV 38)) := (by repeat (first | exact Below.refl _ _ | assumption | refine Below.drew ?_ | refine bdrewN ?_ _ | refine Below.alloc ?_ (by simp; try omega) _ | refine Below.setCell ?_ (by simp; try omega) _))
  have HL := Lib.hid (hl.ext hB0)
  have HZ := Lib.hid (And.intro (Blk.new w 38 zV) hB0)
  have hg0 : getAt l 0 = getW l := getAt_zero l
  cases hg : getW l with
  | none =>
    have ht : Hid (takeK .row l = none) := by unfold Hid takeK; rw [hg]
    have e0 : getV (getAt l 0) = .tuple #[.int .u64 0, .int .i64 0, .bool false] := by rw [hg0, hg]; rfl
    clear hg0 hg hl hB0
    go_enter Try.func108, Try.ntmps108
    go_wp2_with (go_at_call 113; refine (get_any l A n cap 0 _ HL.out hn hc hm).mono ?_; rintro e w1 ⟨rfl, hb⟩; rw [e0]; have HB : Hid (Blk w1 w.heap.size 38 zV ∧ Below w.heap.size w w1) := ⟨HZ.out.1.ext hb, ext_under HZ.out.2 (Nat.le_refl _) hb⟩; clear hb; have c0 : w1.cell? ⟨w.heap.size, 0, none⟩ = some (.int .u64 0) := HB.out.1.cell 0; have c1 : w1.cell? ⟨w.heap.size, 1, none⟩ = some (.int .i64 0) := HB.out.1.cell 1; have c2 : w1.cell? ⟨w.heap.size, 2, none⟩ = some (.bool false) := HB.out.1.cell 2; have c3 : w1.cell? ⟨w.heap.size, 3, none⟩ = some (.slice none 0 0) := HB.out.1.cell 3; have c4 : w1.cell? ⟨w.heap.size, 4, none⟩ = some (.slice none 0 0) := HB.out.1.cell 4; have f0 := HB.out.1.free 0; have f1 := HB.out.1.free 1; have f2 := HB.out.1.free 2; have f3 := HB.out.1.free 3; have f4 := HB.out.1.free 4)
    have hF := blk_five (HB.out.1) (.int .u64 0) (.int .i64 0) (.bool false) (.slice none 0 0) (.slice none 0 0); have q0 := hF.cell 0; have q1 := hF.cell 1; have q2 := hF.cell 2; have q3 := hF.cell 3; have q4 := hF.cell 4; clear hF
    refine bodyPost_ret (v := .tuple #[wr0.agg, .int .i64 0, .bool false]) ?_ rfl ⟨below_five HB.out.2 (Nat.le_refl _) _ _ _ _ _, by rw [ht.out]⟩
    simp [results, Try.results108, go_sem, q0, q1, q2, q3, q4, wr0_agg]
  | some x =>
    obtain ⟨m, u⟩ := x
    have e0 : getV (getAt l 0) = .tuple #[.int .u64 (m : Int), .int .i64 (u : Int), .bool true] := by rw [hg0, hg]; rfl
    have hs := get_some hg
    have hu := hs.2.2.2.1
    by_cases hbig : m ≤ 4096
    · have ht : Hid (takeK .row l = (takeL m (l.drop u)).map fun (l, k) => ({ wv0 with l := l }, u + k)) := by unfold Hid takeK; rw [hg]; simp only; rw [if_pos hbig]
      have d1 : decide ((4096 : Int) < (m : Int)) = false := decide_eq_false (by omega)
      have HLw := Lib.hid hl
      obtain ⟨i0, hi, hz, hz1, hz2⟩ := info_parts nInfo
      clear hg0 hg hl hB0 hs
      go_enter Try.func108, Try.ntmps108
      go_wp2_with (go_at_call 113; refine (get_any l A n cap 0 _ HL.out hn hc hm).mono ?_; rintro e w1 ⟨rfl, hb⟩; rw [e0]; have HB : Hid (Blk w1 w.heap.size 38 zV ∧ Below w.heap.size w w1) := ⟨HZ.out.1.ext hb, ext_under HZ.out.2 (Nat.le_refl _) hb⟩; clear hb; have c0 : w1.cell? ⟨w.heap.size, 0, none⟩ = some (.int .u64 0) := HB.out.1.cell 0; have c1 : w1.cell? ⟨w.heap.size, 1, none⟩ = some (.int .i64 0) := HB.out.1.cell 1; have c2 : w1.cell? ⟨w.heap.size, 2, none⟩ = some (.bool false) := HB.out.1.cell 2; have c3 : w1.cell? ⟨w.heap.size, 3, none⟩ = some (.slice none 0 0) := HB.out.1.cell 3; have c4 : w1.cell? ⟨w.heap.size, 4, none⟩ = some (.slice none 0 0) := HB.out.1.cell 4; have f0 := HB.out.1.free 0; have f1 := HB.out.1.free 1; have f2 := HB.out.1.free 2; have f3 := HB.out.1.free 3; have f4 := HB.out.1.free 4)
      go_loopg [3, 23] m (fun gk vu vj wr => ∃ (j d : Nat) (xs : List Nat) (A2 : Option Addr) (n2 c2 : Nat), vj = .int .u64 (j : Int) ∧ vu = .int .i64 ((u + d : Nat) : Int) ∧ m ≤ j + gk ∧ j ≤ m ∧ Hid (NI l u m j d xs) ∧ Hid (NB w wr A2 n2 c2 xs))
      case atStart =>
        refine ⟨0, 0, [], none, 0, 0, rfl, rfl, by omega, by omega, ⟨?_, rfl, by simp, hu⟩, ⟨HB.out.1, OwnA.nil_ _ _ _ _, (fun k hk => by cases hk), HB.out.2⟩⟩
        show takeL m (l.drop u) = (takeL (m - 0) (l.drop (u + 0))).map _
        rw [Nat.sub_zero, Nat.add_zero]
        cases takeL m (l.drop u) with
        | none => rfl
        | some y => obtain ⟨ys, t⟩ := y; simp
      case round =>
        obtain ⟨j, d, xs, A2, n2, c2, rfl, rfl, hgk, hj, hN, hNB⟩ := hrel
        have hlw : BySl wr wr.heap.size A l := (HLw.out.below hNB.out.be).more hNB.out.be.size
        have HW := Lib.hid hlw
        clear hlw
        by_cases hjm : j < m
        · have d2 : decide ((j : Int) < (m : Int)) = true := decide_eq_true (by omega)
          have hgn := getAt_nat l (u + d)
          have hle := hN.out.le
          obtain ⟨at', hat'⟩ : ∃ t, t = u + d := ⟨_, rfl⟩
          rw [← hat'] at hgn
          cases hg : getW (l.drop (u + d)) with
          | none =>
            have ht2 : Hid (takeK .row l = none) := by rw [Hid, ht.out, hN.out.none hjm hg]; rfl
            have e1 : getV (getAt l (at' : Int)) = .tuple #[.int .u64 0, .int .i64 0, .bool false] := by rw [hgn, hat', hg]; rfl
            rw [← hat']
            clear hg hgn hat' hle
            go_wp2_with (go_at_call 113; refine (get_any l A n cap (at' : Int) _ HW.out hn hc hm).mono ?_; rintro e w1 ⟨rfl, hb⟩; rw [e1]; have HX := Lib.hid (hNB.out.ext hb); clear hb; have k0 : w1.cell? ⟨w.heap.size, 0, none⟩ = some (.int .u64 0) := HX.out.blk.cell 0; have k1 : w1.cell? ⟨w.heap.size, 1, none⟩ = some (.int .i64 0) := HX.out.blk.cell 1; have k2 : w1.cell? ⟨w.heap.size, 2, none⟩ = some (.bool false) := HX.out.blk.cell 2; have k3 : w1.cell? ⟨w.heap.size, 3, none⟩ = some (.slice none 0 0) := HX.out.blk.cell 3; have k4 : w1.cell? ⟨w.heap.size, 4, none⟩ = some (.slice A2 n2 c2) := HX.out.blk.cell 4; have g0 := HX.out.blk.free 0; have g1 := HX.out.blk.free 1; have g2 := HX.out.blk.free 2; have g3 := HX.out.blk.free 3; have g4 := HX.out.blk.free 4)
            have hF := blk_five (HX.out.blk) (.int .u64 0) (.int .i64 0) (.bool false) (.slice none 0 0) (.slice none 0 0); have q0 := hF.cell 0; have q1 := hF.cell 1; have q2 := hF.cell 2; have q3 := hF.cell 3; have q4 := hF.cell 4; clear hF
            refine bodyPost_ret (v := .tuple #[wr0.agg, .int .i64 0, .bool false]) ?_ rfl ⟨below_five HX.out.be (Nat.le_refl _) _ _ _ _ _, by rw [ht2.out]⟩
            simp [results, Try.results108, go_sem, q0, q1, q2, q3, q4, wr0_agg]
          | some x =>
            obtain ⟨x, k⟩ := x
            have e1 : getV (getAt l (at' : Int)) = .tuple #[.int .u64 (x : Int), .int .i64 (k : Int), .bool true] := by rw [hgn, hat', hg]; rfl
            have hs := get_some hg
            have hk := hs.2.2.2.1
            rw [List.length_drop] at hk
            have e2 : IntKind.i64.wrap ((at' : Int) + (k : Int)) = ((at' + k : Nat) : Int) := by rw [IntWalk.i64_in _ (by have := hn.out; omega)]; omega
            have e3 : IntKind.u64.wrap ((j : Int) + 1) = ((j + 1 : Nat) : Int) := by rw [IntWalk.u64_in _ (by omega)]; omega
            obtain ⟨at2, hat2⟩ : ∃ t, t = at' + k := ⟨_, rfl⟩
            rw [← hat2] at e2
            have HN2 := Lib.hid (And.intro (hN.out.next hjm hg) (show at2 = u + (d + k) from by omega))
            have hb1 : Hid (xs.length + [x].length ≤ maxLen) := by rw [Hid, hN.out.len]; simp [maxLen]; omega
            have hb2 : Hid ((xs.length + [x].length) * 8 ≤ 140737488355328) := by rw [Hid, hN.out.len]; simp; omega
            rw [← hat']
            clear hg hgn hat' hle hs hk hat2
            go_wp2_with (first | (go_at_call 113; refine (get_any l A n cap (at' : Int) _ HW.out hn hc hm).mono ?_; rintro e w1 ⟨rfl, hb⟩; rw [e1]; have HX := Lib.hid (hNB.out.ext hb); clear hb; have k4 : w1.cell? ⟨w.heap.size, 4, none⟩ = some (.slice A2 n2 c2) := HX.out.blk.cell 4; have hlt := HX.out.blk.lt) | (at_builtin; refine wpList_append_a _ rfl _ _ _ rfl 34 i0 _ 1 8 Try.underlying36 hi hz hz1 hz2 rfl (by decide) encN_len encN_one _ xs (by rfl) (HX.out.own.alloc _) _ (some ⟨w1.heap.size, 0, none⟩) [x] 1 1 (by rfl) rfl (lit_nat w1 x 34) hb1.out hb2.out ?_; intro v' w' hown' hchg hat; obtain ⟨A3, n3, c3', rfl, hn3, hle3, hmx3, hnil3⟩ := hown'.form; have HA := Lib.hid (HX.out.appended hown' hchg hat); clear hown' hchg hat; have g4 := HA.out.1.free 4; have k4' : w'.cell? ⟨w.heap.size, 4, none⟩ = some (.slice A2 n2 c2) := HA.out.1.cell 4))
            go_roundg (gk - 1)
            case measure => omega
            case rel => exact ⟨j + 1, d + k, xs ++ [x], A3, n3, c3', by go_num, by rw [HN2.out.2], by omega, by omega, HN2.out.1, HA.out.2⟩
        · have d2 : decide ((j : Int) < (m : Int)) = false := decide_eq_false (by omega)
          obtain rfl : j = m := by omega
          have ht2 : Hid (takeK .row l = some ({ wv0 with l := xs }, u + d)) := by rw [Hid, ht.out, hN.out.done]; rfl
          have k0 : wr.cell? ⟨w.heap.size, 0, none⟩ = some (.int .u64 0) := hNB.out.blk.cell 0
          have k1 : wr.cell? ⟨w.heap.size, 1, none⟩ = some (.int .i64 0) := hNB.out.blk.cell 1
          have k2 : wr.cell? ⟨w.heap.size, 2, none⟩ = some (.bool false) := hNB.out.blk.cell 2
          have k3 : wr.cell? ⟨w.heap.size, 3, none⟩ = some (.slice none 0 0) := hNB.out.blk.cell 3
          have k4 : wr.cell? ⟨w.heap.size, 4, none⟩ = some (.slice A2 n2 c2) := hNB.out.blk.cell 4
          have g0 := hNB.out.blk.free 0
          have g1 := hNB.out.blk.free 1
          have g2 := hNB.out.blk.free 2
          have g3 := hNB.out.blk.free 3
          have g4 := hNB.out.blk.free 4
          obtain ⟨at', hat'⟩ : ∃ t, t = u + d := ⟨_, rfl⟩
          rw [← hat'] at ht2 ⊢
          clear hat'
          have hxl : Hid (xs.length ≤ 1000000) := by rw [Hid, hN.out.len]; omega
          go_wp2
          have hF := blk_five (hNB.out.blk) (.int .u64 0) (.int .i64 0) (.bool false) (.slice none 0 0) (.slice A2 n2 c2); have q0 := hF.cell 0; have q1 := hF.cell 1; have q2 := hF.cell 2; have q3 := hF.cell 3; have q4 := hF.cell 4; clear hF
          refine bodyPost_ret (v := .tuple #[(⟨{ wv0 with l := xs }, none, 0, 0, A2, n2, c2⟩ : Wr).agg, .int .i64 (at' : Int), .bool true]) ?_ rfl ⟨below_five hNB.out.be (Nat.le_refl _) _ _ _ _ _, by
            rw [ht2.out]
            refine ⟨⟨{ wv0 with l := xs }, none, 0, 0, A2, n2, c2⟩, rfl, rfl, ⟨OwnA.nil_ _ _ _ _, hNB.out.own.chg (chg_five (Chg.refl (fun k => k = w.heap.size) wr) rfl _ _ _ _ _) (fun k hk e => by have := hNB.out.fr k hk; omega), wv0_wf.1, wv0_wf.2.1, wv0_wf.2.2.1, hN.out.wf, wv0_wf.2.2.2.2.1, hxl.out⟩, fun k hk => by simp [blockOf] at hk, fun k hk => ?_⟩
            have := hNB.out.fr k (by revert hk; cases A2 <;> simp [Value.ownBlock, blockOf])
            omega⟩
          simp [results, Try.results108, go_sem, q0, q1, q2, q3, q4, Wr.agg, wv0]
    · have ht : Hid (takeK .row l = none) := by unfold Hid takeK; rw [hg]; simp only; rw [if_neg hbig]
      have d1 : decide ((4096 : Int) < (m : Int)) = true := decide_eq_true (by omega)
      clear hg0 hg hl hB0 hs
      go_enter Try.func108, Try.ntmps108
      go_wp2_with (go_at_call 113; refine (get_any l A n cap 0 _ HL.out hn hc hm).mono ?_; rintro e w1 ⟨rfl, hb⟩; rw [e0]; have HB : Hid (Blk w1 w.heap.size 38 zV ∧ Below w.heap.size w w1) := ⟨HZ.out.1.ext hb, ext_under HZ.out.2 (Nat.le_refl _) hb⟩; clear hb; have c0 : w1.cell? ⟨w.heap.size, 0, none⟩ = some (.int .u64 0) := HB.out.1.cell 0; have c1 : w1.cell? ⟨w.heap.size, 1, none⟩ = some (.int .i64 0) := HB.out.1.cell 1; have c2 : w1.cell? ⟨w.heap.size, 2, none⟩ = some (.bool false) := HB.out.1.cell 2; have c3 : w1.cell? ⟨w.heap.size, 3, none⟩ = some (.slice none 0 0) := HB.out.1.cell 3; have c4 : w1.cell? ⟨w.heap.size, 4, none⟩ = some (.slice none 0 0) := HB.out.1.cell 4; have f0 := HB.out.1.free 0; have f1 := HB.out.1.free 1; have f2 := HB.out.1.free 2; have f3 := HB.out.1.free 3; have f4 := HB.out.1.free 4)
      have hF := blk_five (HB.out.1) (.int .u64 0) (.int .i64 0) (.bool false) (.slice none 0 0) (.slice none 0 0); have q0 := hF.cell 0; have q1 := hF.cell 1; have q2 := hF.cell 2; have q3 := hF.cell 3; have q4 := hF.cell 4; clear hF
      refine bodyPost_ret (v := .tuple #[wr0.agg, .int .i64 0, .bool false]) ?_ rfl ⟨below_five HB.out.2 (Nat.le_refl _) _ _ _ _ _, by rw [ht.out]⟩
      simp [results, Try.results108, go_sem, q0, q1, q2, q3, q4, wr0_agg]
end Go.Proofs.Ytoneechcclndaaa.Wire
