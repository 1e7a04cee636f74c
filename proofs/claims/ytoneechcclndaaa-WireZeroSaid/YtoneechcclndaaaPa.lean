/- wire: bytes.Equal, slices.Equal; the program's same.
wire: the program's bare, Same.
slices.Grow of nil, slices.Concat.
words.Row; what the letters put. -/
import Derived.Test.YtoneechcclndaaaWp
import Derived.Laws.IdiomStrings
import Derived.Laws.BytesArg
import Derived.Outline
import Derived.BigQuiet
import Derived.Deep.QuietTactic
import Derived.Deep.RegionWith
import Derived.Deep.RegionHeld3
import Derived.Deep.DrawnRows
import Derived.Deep.LoopGhost
import Derived.Deep.DeepCutAuto
import Derived.Laws.EntriesVeiled
import Derived.Lib.AppendZerosOnto
namespace Go.Proofs.Ytoneechcclndaaa.Wire
open Go.RowKit Go.ChangeShapes Go.WideShapes Go.ChangeAt
set_option linter.unusedVariables false
set_option linter.unusedSimpArgs false
attribute [local go_sem ↓] Go.wp_at_zero Go.wp_at_succ
open Go.Shelf Go.Proofs.Ytoneechcclndaaa.Word

theorem bytes_str (l : List UInt8) (A : Option Addr) (n cap : Nat) (W : World) (hl : BySl W W.heap.size A l) (hn : n = l.length) : (convert 25 9 (.slice A n cap)).run Try.prog W = .ok (.string ⟨l.toArray⟩) W := by
  subst hn
  rcases A with _ | a
  · have h0 : l = [] := by
      rcases l with _ | ⟨x, l⟩
      · rfl
      · obtain ⟨b, off, h, _⟩ := hl (by simp); cases h
    subst h0
    exact run_convert_bytes_nil W 25 5 Try.underlying25 Try.underlying5 _ cap 9 Try.underlying9
  · refine run_convert_bytes_back W 25 9 5 a cap l Try.underlying25 Try.underlying5 Try.underlying9 (fun j hj => ?_)
    obtain ⟨b, off, hA, hb, hc⟩ := BySl.at_ hl (List.getElem?_eq_getElem hj)
    injection hA with hA
    subst hA
    by_cases h0 : j = 0
    · subst h0; simpa [Addr.add] using hc
    · simpa [Addr.add, h0] using hc
theorem eqB_beq (l m : List UInt8) : (l == m) = Bytes.eqB l m := by rw [Bool.eq_iff_iff, Bytes.eqB_iff, beq_iff_eq]

theorem bytesEqual_any (l m : List UInt8) (A B : Option Addr) (nl nm ca cb : Nat) (w : World) (hl : BySl w w.heap.size A l) (hm : BySl w w.heap.size B m) (hnl : nl = l.length) (hnm : nm = m.length) :
    Calls Try.prog 68 #[.slice A nl ca, .slice B nm cb] w fun e w' => e = .returned (.bool (Bytes.eqB l m)) ∧ w = w' := by
  have h1 := bytes_str l A nl ca w hl hnl
  have h2 := bytes_str m B nm cb w hm hnm
  have he := Lib.hid (eqB_beq l m)
  clear hl hm hnl hnm
  go_enter Try.func68, Try.ntmps68
  go_wp2
  go_ret
  exact ⟨ret_bool (by rw [← he.out]; try simp), rfl⟩

theorem sEqual_any (l m : List Nat) (A B : Option Addr) (nl nm ca cb : Nat) (w : World) (hl : Sl w w.heap.size 1 encN A l) (hm : Sl w w.heap.size 1 encN B m) (hnl : nl = l.length) (hnm : nm = m.length) (hle : nl ≤ 1000000) :
    Calls Try.prog 84 #[.slice A nl ca, .slice B nm cb] w fun e w' => e = .returned (.bool (eqN l m)) ∧ ∃ n, w' = w.drewN n := by
  have HL := Lib.hid (And.intro hl hnl)
  have HM := Lib.hid (And.intro hm hnm)
  clear hl hm hnl hnm
  by_cases hn : nl = nm
  · subst hn
    go_enter Try.func84, Try.ntmps84
    go_wp2
    go_loopg [13] nl (fun g v wr => ∃ j : Nat, nl ≤ j + g ∧ j ≤ nl ∧ v = .int .i64 (j : Int) ∧ Hid (eqN l m = eqN (l.drop j) (m.drop j)) ∧ Hid (∃ n, wr = w.drewN n))
    case atStart => exact ⟨0, by omega, by omega, rfl, rfl, 0, rfl⟩
    case round =>
      obtain ⟨j, hg, hj, rfl, hf, nn, rfl⟩ := hrel
      by_cases hlt : j < nl
      · have hj1 : j < l.length := by rw [← HL.out.2]; exact hlt
        have hj2 : j < m.length := by rw [← HM.out.2]; exact hlt
        obtain ⟨bb, off, rfl, hbb, c0⟩ := encN_at HL.out.1 (List.getElem?_eq_getElem hj1)
        obtain ⟨bb', off', rfl, hbb', d0⟩ := encN_at HM.out.1 (List.getElem?_eq_getElem hj2)
        have HE : Hid (eqN (l.drop j) (m.drop j) = ((l[j] == m[j]) && eqN (l.drop (j + 1)) (m.drop (j + 1)))) := eqN_drop (List.drop_eq_getElem_cons hj1) (List.drop_eq_getElem_cons hj2)
        have b0 : (0 : Int) ≤ (j : Int) := Int.natCast_nonneg _
        have b2 : (j : Int) < (nl : Int) := by omega
        have b3 : decide (j < nl) = true := decide_eq_true hlt
        generalize l[j] = y1 at *
        generalize m[j] = y2 at *
        by_cases hy : y1 = y2
        · have HF : Hid (eqN l m = eqN (l.drop (j + 1)) (m.drop (j + 1))) := by rw [Hid, hf.out, HE.out, hy]; simp
          have e9 : ((y1 : Int) != (y2 : Int)) = false := by simp [hy]
          have e8 : (y1 != y2) = false := by simp [hy]
          clear hy
          go_wp2
          go_quiet (fail)
          go_wp2
          go_roundg (gk - 1)
          case measure => omega
          case rel => exact ⟨j + 1, by omega, by omega, by go_num, HF.out, nn + nq, by first | rfl | exact World.drewN_drewN _ _ _⟩
        · have HF : Hid (eqN l m = false) := by rw [Hid, hf.out, HE.out, show (y1 == y2) = false from by simpa using hy]; rfl
          have e9 : ((y1 : Int) != (y2 : Int)) = true := by simp; omega
          have e8 : (y1 != y2) = true := by simpa using hy
          clear hy
          go_wp2
          go_quiet (fail)
          go_wp2
          go_ret
          exact ⟨ret_bool HF.out.symm, nn + nq, by first | rfl | exact World.drewN_drewN _ _ _⟩
      · have HF : Hid (eqN l m = true) := by
          rw [Hid, hf.out, List.drop_of_length_le (by rw [← HL.out.2]; omega), List.drop_of_length_le (by rw [← HM.out.2]; omega)]; rfl
        have b2 : ¬ (j : Int) < (nl : Int) := by omega
        have b3 : decide (j < nl) = false := decide_eq_false hlt
        go_wp2
        go_ret
        exact ⟨ret_bool HF.out.symm, nn, rfl⟩
  · have HF : Hid (eqN l m = false) := eqN_len (by rw [← HL.out.2, ← HM.out.2]; exact hn)
    have h9 : ((nl : Int) != (nm : Int)) = true := by simp; omega
    have h8 : (nl != nm) = true := by simpa using hn
    go_enter Try.func84, Try.ntmps84
    go_wp2
    go_ret
    exact ⟨ret_bool HF.out.symm, 0, rfl⟩

set_option maxHeartbeats 4000000 in
theorem same_any (a b : Wr) (w : World) (ha : a.Rd w) (hb : b.Rd w) : Calls Try.prog 53 #[a.agg, b.agg] w fun e w' => e = .returned (.bool (eqV a.v b.v)) ∧ Below w.heap.size w w' := by
  obtain ⟨⟨n1, i1, f1, x1, l1⟩, A1, bn1, bc1, L1, ln1, lc1⟩ := a
  obtain ⟨⟨n2, i2, f2, x2, l2⟩, A2, bn2, bc2, L2, ln2, lc2⟩ := b
  unfold Wr.agg
  have hsame : ∀ W, Hid (Below w.heap.size w W) → Calls Try.prog 68 #[.slice A1 bn1 bc1, .slice A2 bn2 bc2] W fun e w' => e = .returned (.bool (Bytes.eqB x1 x2)) ∧ W = w' := fun W hW =>
    bytesEqual_any x1 x2 A1 A2 bn1 bn2 bc1 bc2 W (ha.b.ext hW.out) (hb.b.ext hW.out) ha.bn hb.bn
  have hEq : ∀ W, Hid (Below w.heap.size w W) → Calls Try.prog 84 #[.slice L1 ln1 lc1, .slice L2 ln2 lc2] W fun e w' => e = .returned (.bool (eqN l1 l2)) ∧ ∃ n, w' = W.drewN n := fun W hW =>
    sEqual_any l1 l2 L1 L2 ln1 ln2 lc1 lc2 W (ha.l.ext hW.out) (hb.l.ext hW.out) ha.ln hb.ln (by have := ha.ln; have := ha.wf.2.2.2.2.2; simp only at *; omega)
  have hV : Hid (eqV ⟨n1, i1, f1, x1, l1⟩ ⟨n2, i2, f2, x2, l2⟩ = (n1 == n2 && i1 == i2 && f1 == f2 && Bytes.eqB x1 x2 && eqN l1 l2)) := rfl
  generalize eqV ⟨n1, i1, f1, x1, l1⟩ ⟨n2, i2, f2, x2, l2⟩ = res at *
  clear ha hb
  by_cases hn : n1 = n2
  · subst hn
    by_cases hi : i1 = i2
    · subst hi
      by_cases hf : f1 = f2
      · subst hf
        have hV2 : Hid (res = (Bytes.eqB x1 x2 && eqN l1 l2)) := by rw [Hid, hV.out]; simp
        cases hq : Bytes.eqB x1 x2 with
        | false =>
          rw [hq] at hsame hV2
          have HV : Hid (res = false) := by rw [Hid, hV2.out]; rfl
          clear hq hEq
          go_enter Try.func53, Try.ntmps53
          go_wp2_with (go_at_call 68; refine (hsame _ ?_).mono ?_; exact Lib.hid (by repeat (first | exact Below.refl _ _ | assumption | refine Below.drew ?_ | refine bdrewN ?_ _ | refine Below.alloc ?_ (by simp; try omega) _ | refine Below.setCell ?_ (by simp; try omega) _)); rintro e w' ⟨rfl, rfl⟩)
          go_ret
          exact ⟨ret_bool HV.out.symm, (by repeat (first | exact Below.refl _ _ | assumption | refine Below.drew ?_ | refine bdrewN ?_ _ | refine Below.alloc ?_ (by simp; try omega) _ | refine Below.setCell ?_ (by simp; try omega) _))⟩
        | true =>
          rw [hq] at hsame hV2
          have HV : Hid (res = eqN l1 l2) := by rw [Hid, hV2.out]; rfl
          clear hq
          generalize eqN l1 l2 = qn at *
          go_enter Try.func53, Try.ntmps53
          go_wp2_with (first | (go_at_call 68; refine (hsame _ ?_).mono ?_; exact Lib.hid (by repeat (first | exact Below.refl _ _ | assumption | refine Below.drew ?_ | refine bdrewN ?_ _ | refine Below.alloc ?_ (by simp; try omega) _ | refine Below.setCell ?_ (by simp; try omega) _)); rintro e w' ⟨rfl, rfl⟩) | (go_at_call 84; refine (hEq _ ?_).mono ?_; exact Lib.hid (by repeat (first | exact Below.refl _ _ | assumption | refine Below.drew ?_ | refine bdrewN ?_ _ | refine Below.alloc ?_ (by simp; try omega) _ | refine Below.setCell ?_ (by simp; try omega) _)); rintro e w' ⟨rfl, nq, rfl⟩))
          go_ret
          exact ⟨ret_bool HV.out.symm, (by repeat (first | exact Below.refl _ _ | assumption | refine Below.drew ?_ | refine bdrewN ?_ _ | refine Below.alloc ?_ (by simp; try omega) _ | refine Below.setCell ?_ (by simp; try omega) _))⟩
      · have HV : Hid (res = false) := by rw [Hid, hV.out, show (f1 == f2) = false from by simpa using hf]; simp
        have h9 : (f1 == f2) = false := by simpa using hf
        clear hsame hEq
        go_enter Try.func53, Try.ntmps53
        go_wp2
        go_ret
        exact ⟨ret_bool HV.out.symm, (by repeat (first | exact Below.refl _ _ | assumption | refine Below.drew ?_ | refine bdrewN ?_ _ | refine Below.alloc ?_ (by simp; try omega) _ | refine Below.setCell ?_ (by simp; try omega) _))⟩
    · have HV : Hid (res = false) := by rw [Hid, hV.out, show (i1 == i2) = false from by simpa using hi]; simp
      have h9 : (i1 == i2) = false := by simpa using hi
      clear hsame hEq
      go_enter Try.func53, Try.ntmps53
      go_wp2
      go_ret
      exact ⟨ret_bool HV.out.symm, (by repeat (first | exact Below.refl _ _ | assumption | refine Below.drew ?_ | refine bdrewN ?_ _ | refine Below.alloc ?_ (by simp; try omega) _ | refine Below.setCell ?_ (by simp; try omega) _))⟩
  · have HV : Hid (res = false) := by rw [Hid, hV.out, show (n1 == n2) = false from by simpa using hn]; simp
    have h9 : ((n1 : Int) == (n2 : Int)) = false := by simp; omega
    have h8 : (n1 == n2) = false := by simpa using hn
    clear hsame hEq
    go_enter Try.func53, Try.ntmps53
    go_wp2
    go_ret
    exact ⟨ret_bool HV.out.symm, (by repeat (first | exact Below.refl _ _ | assumption | refine Below.drew ?_ | refine bdrewN ?_ _ | refine Below.alloc ?_ (by simp; try omega) _ | refine Below.setCell ?_ (by simp; try omega) _))⟩
end Go.Proofs.Ytoneechcclndaaa.Wire

namespace Go.Proofs.Ytoneechcclndaaa.Wire
open Go.RowKit Go.ChangeShapes Go.WideShapes Go.ChangeAt
set_option linter.unusedVariables false
set_option linter.unusedSimpArgs false
attribute [local go_sem ↓] Go.wp_at_zero Go.wp_at_succ
open Go.Shelf Go.Proofs.Ytoneechcclndaaa.Word

/-- a value without what a letter has -/
def Wr.bare (k : Kd) (r : Wr) : Wr :=
  match k with
  | .nat => { r with v := { r.v with n := 0 } }
  | .int => { r with v := { r.v with i := 0 } }
  | .flag => { r with v := { r.v with f := false } }
  | .bytes => { r with v := { r.v with b := [] }, bA := none, bn := 0, bc := 0 }
  | .row => { r with v := { r.v with l := [] }, lA := none, ln := 0, lc := 0 }
theorem Wr.Rd.bare {w : World} {r : Wr} (h : r.Rd w) (k : Kd) : (r.bare k).Rd w := by
  cases k with
  | nat => exact ⟨h.b, h.bn, h.l, h.ln, wv0_wf.1, h.wf.2⟩
  | int => exact ⟨h.b, h.bn, h.l, h.ln, h.wf.1, wv0_wf.2.1, wv0_wf.2.2.1, h.wf.2.2.2⟩
  | flag => exact ⟨h.b, h.bn, h.l, h.ln, h.wf⟩
  | bytes => exact ⟨Sl.nil _ _ _ _ _, rfl, h.l, h.ln, h.wf.1, h.wf.2.1, h.wf.2.2.1, h.wf.2.2.2.1, wv0_wf.2.2.2.2.1, h.wf.2.2.2.2.2⟩
  | row => exact ⟨h.b, h.bn, Sl.nil _ _ _ _ _, rfl, h.wf.1, h.wf.2.1, h.wf.2.2.1, (by intro x hx; cases hx), h.wf.2.2.2.2.1, wv0_wf.2.2.2.2.2⟩
theorem wr0_rd (w : World) : wr0.Rd w := ⟨Sl.nil _ _ _ _ _, rfl, Sl.nil _ _ _ _ _, rfl, wv0_wf⟩
theorem eqB_nil (l : List UInt8) : Bytes.eqB l [] = l.isEmpty := by cases l <;> rfl
theorem eqN_nil (l : List Nat) : eqN l [] = l.isEmpty := by cases l <;> rfl
theorem fits_bare (k : Kd) (r : Wr) : eqV (r.bare k).v wr0.v = fitsK k r.v := by
  obtain ⟨⟨n, i, f, b, l⟩, A, bn, bc, L, ln, lc⟩ := r
  cases k <;> simp only [Wr.bare, wr0, wv0, eqV, fitsK, eqB_nil, eqN_nil] <;> cases f <;> simp

set_option maxHeartbeats 2000000 in
theorem bare_any (r : Wr) (k : Kd) (w : World) : Calls Try.prog 54 #[r.agg, .int .u8 (k.byte : Int)] w fun e w' => e = .returned (r.bare k).agg ∧ Below w.heap.size w w' := by
  obtain ⟨⟨n, i, f, b, l⟩, A, bn, bc, L, ln, lc⟩ := r
  cases k <;> (
    unfold Wr.agg Wr.bare Kd.byte
    go_enter Try.func54, Try.ntmps54
    go_wp2
    refine bodyPost_ret (v := _) ?_ rfl ⟨rfl, (by repeat (first | exact Below.refl _ _ | assumption | refine Below.drew ?_ | refine bdrewN ?_ _ | refine Below.alloc ?_ (by simp; try omega) _ | refine Below.setCell ?_ (by simp; try omega) _))⟩
    simp [results, Try.results54, go_sem])

set_option maxHeartbeats 4000000 in
theorem equalF_any (ls ms : List Wr) (A B : Option Addr) (nl nm ca cb : Nat) (w : World) (hl : VRd w A nl ls) (hm : VRd w B nm ms) :
    Calls Try.prog 60 #[.slice A nl ca, .slice B nm cb, .func (.func 53) #[] #[]] w fun e w' => e = .returned (.bool (eqVs (ls.map Wr.v) (ms.map Wr.v))) ∧ Below w.heap.size w w' := by
  by_cases hn : nl = nm
  · subst hn
    have HL := Lib.hid hl
    have HM := Lib.hid hm
    have hlb : nl ≤ 1000000 := by rw [hl.n.out]; exact hl.le
    clear hl hm
    go_enter Try.func60, Try.ntmps60
    go_wp2
    go_loopg [17] nl (fun g v wr => ∃ j : Nat, nl ≤ j + g ∧ j ≤ nl ∧ v = .int .i64 (j : Int) ∧ Hid (eqVs (ls.map Wr.v) (ms.map Wr.v) = eqVs ((ls.drop j).map Wr.v) ((ms.drop j).map Wr.v)) ∧ Hid (Below w.heap.size w wr))
    case atStart => exact ⟨0, by omega, by omega, rfl, rfl, Below.refl _ _⟩
    case round =>
      obtain ⟨j, hg, hj, rfl, hf, hB⟩ := hrel
      by_cases hlt : j < nl
      · have hj1 : j < ls.length := by rw [← HL.out.n.out]; exact hlt
        have hj2 : j < ms.length := by rw [← HM.out.n.out]; exact hlt
        have HL2 := Lib.hid (HL.out.ext hB.out)
        have HM2 := Lib.hid (HM.out.ext hB.out)
        obtain ⟨bb, off, rfl, hbb, c0, c1, c2, c3, c4⟩ := Wr.at_ HL2.out.sl (List.getElem?_eq_getElem hj1)
        obtain ⟨bb', off', rfl, hbb', d0, d1, d2, d3, d4⟩ := Wr.at_ HM2.out.sl (List.getElem?_eq_getElem hj2)
        have HE := Lib.hid (eqVs_drop (List.drop_eq_getElem_cons hj1) (List.drop_eq_getElem_cons hj2))
        have hsm : ∀ W, Hid (Below wr.heap.size wr W) → Calls Try.prog 53 #[ls[j].agg, ms[j].agg] W fun e w' => e = .returned (.bool (eqV ls[j].v ms[j].v)) ∧ Below W.heap.size W w' := fun W hW =>
          same_any ls[j] ms[j] W ((HL2.out.rd _ (List.getElem_mem hj1)).ext hW.out) ((HM2.out.rd _ (List.getElem_mem hj2)).ext hW.out)
        have b0 : (0 : Int) ≤ (j : Int) := Int.natCast_nonneg _
        have b2 : (j : Int) < (nl : Int) := by omega
        have c8 : bb' ≠ wr.heap.size := by omega
        have dd : ∀ (o : Obj) (i : Nat) (u : Value), wr.cell? ⟨bb', i, none⟩ = some u → (wr.alloc o).cell? ⟨bb', i, none⟩ = some u := fun o i u h => (World.cell?_alloc_lt wr o ⟨bb', i, none⟩ hbb').trans h
        generalize ls[j] = x at *
        generalize ms[j] = y at *
        unfold Wr.agg at hsm
        cases hq : eqV x.v y.v with
        | true =>
          have HF : Hid (eqVs (ls.map Wr.v) (ms.map Wr.v) = eqVs ((ls.drop (j + 1)).map Wr.v) ((ms.drop (j + 1)).map Wr.v)) := by rw [Hid, hf.out, HE.out, hq]; rfl
          rw [hq] at hsm
          clear hq dd
          go_wp2_with (go_at_call 53; refine (hsm _ ?_).mono ?_; exact Lib.hid (by repeat (first | exact Below.refl _ _ | assumption | refine Below.drew ?_ | refine bdrewN ?_ _ | refine Below.alloc ?_ (by simp; try omega) _ | refine Below.setCell ?_ (by simp; try omega) _)); rintro e w3 ⟨rfl, hb3⟩; have hb5 : Hid (Below wr.heap.size wr w3) := Lib.hid (Below.trans (by repeat (first | exact Below.refl _ _ | assumption | refine Below.drew ?_ | refine bdrewN ?_ _ | refine Below.alloc ?_ (by simp; try omega) _ | refine Below.setCell ?_ (by simp; try omega) _)) (hb3.mono (by simp; omega))); clear hb3)
          go_roundg (gk - 1)
          case measure => omega
          case rel => exact ⟨j + 1, by omega, by omega, by go_num, HF.out, ext_under hB.out (Nat.le_refl _) hb5.out⟩
        | false =>
          have HF : Hid (eqVs (ls.map Wr.v) (ms.map Wr.v) = false) := by rw [Hid, hf.out, HE.out, hq]; rfl
          rw [hq] at hsm
          clear hq dd
          go_wp2_with (go_at_call 53; refine (hsm _ ?_).mono ?_; exact Lib.hid (by repeat (first | exact Below.refl _ _ | assumption | refine Below.drew ?_ | refine bdrewN ?_ _ | refine Below.alloc ?_ (by simp; try omega) _ | refine Below.setCell ?_ (by simp; try omega) _)); rintro e w3 ⟨rfl, hb3⟩; have hb5 : Hid (Below wr.heap.size wr w3) := Lib.hid (Below.trans (by repeat (first | exact Below.refl _ _ | assumption | refine Below.drew ?_ | refine bdrewN ?_ _ | refine Below.alloc ?_ (by simp; try omega) _ | refine Below.setCell ?_ (by simp; try omega) _)) (hb3.mono (by simp; omega))); clear hb3)
          go_ret
          exact ⟨ret_bool HF.out.symm, ext_under hB.out (Nat.le_refl _) hb5.out⟩
      · have HF : Hid (eqVs (ls.map Wr.v) (ms.map Wr.v) = true) := by
          rw [Hid, hf.out, List.drop_of_length_le (by rw [← HL.out.n.out]; omega), List.drop_of_length_le (by rw [← HM.out.n.out]; omega)]; rfl
        have b2 : ¬ (j : Int) < (nl : Int) := by omega
        go_wp2
        go_ret
        exact ⟨ret_bool HF.out.symm, hB.out⟩
  · have HF : Hid (eqVs (ls.map Wr.v) (ms.map Wr.v) = false) := eqVs_len (by rw [List.length_map, List.length_map, ← hl.n.out, ← hm.n.out]; exact hn)
    have h9 : ((nl : Int) != (nm : Int)) = true := by simp; omega
    have h8 : (nl != nm) = true := by simpa using hn
    clear hl hm
    go_enter Try.func60, Try.ntmps60
    go_wp2
    go_ret
    exact ⟨ret_bool HF.out.symm, Below.refl _ _⟩
theorem Same_any (ls ms : List Wr) (A B : Option Addr) (nl nm ca cb : Nat) (w : World) (hl : VRd w A nl ls) (hm : VRd w B nm ms) :
    Calls Try.prog 22 #[.slice A nl ca, .slice B nm cb] w fun e w' => e = .returned (.bool (eqVs (ls.map Wr.v) (ms.map Wr.v))) ∧ Below w.heap.size w w' := by
  have h := Lib.hid (equalF_any ls ms A B nl nm ca cb w hl hm)
  clear hl hm
  go_enter Try.func22, Try.ntmps22
  go_wp2_with (go_at_call 60; refine h.out.mono ?_; rintro e w3 ⟨rfl, hb3⟩)
  go_ret
  exact ⟨rfl, hb3⟩
end Go.Proofs.Ytoneechcclndaaa.Wire

namespace Go.Proofs.Ytoneechcclndaaa.Wire
open Go.RowKit Go.ChangeShapes Go.WideShapes Go.ChangeAt
set_option linter.unusedVariables false
set_option linter.unusedSimpArgs false
attribute [local go_sem ↓] Go.wp_at_zero Go.wp_at_succ
open Go.Shelf Go.Proofs.Ytoneechcclndaaa.Word

theorem zero_size (n : Nat) : (Builtin.zeroCells (Value.int .u8 0).cells n).size = n := by
  unfold Builtin.zeroCells; simp [Value.cells]

set_option maxHeartbeats 2000000 in
set_option maxRecDepth 100000 in
theorem grow_any (n : Nat) (hn : n ≤ 140737488355328) (w : World) : Calls Try.prog 115 #[.slice none 0 0, .int .i64 (n : Int)] w (RetA w 5 1 encB []) := by
  obtain ⟨i0, hi, hz, hz1, hz2⟩ := info_parts byInfo
  have e1 : IntKind.i64.wrap ((n : Int) - 0) = (n : Int) := by rw [IntWalk.i64_in _ (by omega)]; omega
  have e0 : ¬ ((n : Int) < 0) := by omega
  by_cases h0 : n = 0
  · subst h0
    clear hn e1 e0
    go_enter Try.func115, Try.ntmps115
    go_wp2
    go_ret
    exact ⟨_, rfl, OwnA.nil_ _ _ _ _, (fun k hk => by cases hk), Below.refl _ _⟩
  · have e2 : (0 : Int) < (n : Int) := by omega
    have e3 : decide (0 < n) = true := decide_eq_true (by omega)
    have hrz : ∀ ty, (Builtin.append_ #[25, 3] ty #[.slice none 0 0, .int .i64 (n : Int)]).run Try.prog w =
        .ok (.slice (some ⟨w.heap.size, 0, none⟩) n (grownCap w n 0 5)) (w.drew.alloc (.cells ((#[] : Array Value) ++ Builtin.zeroCells (Value.int .u8 0).cells n ++ Builtin.zeroCells (Value.int .u8 0).cells (grownCap w n 0 5 - n)) 5)) := fun ty => by
      have h := Lib.run_append_grow_zeros (P := Try.prog) w 25 3 ty 5 i0 (.int .u8 0) .i64 .i64 Try.underlying25 Try.underlying3 hi hz none 0 0 [] (run_firstCells_none w.drew i0.size 0 0 0) n (by omega) (by omega) (by omega) (by omega) (by rw [hz2]; omega) (by rw [hz2]; exact growslice_fits (by omega) (by omega))
      simpa using h
    have hGn : n ≤ grownCap w n 0 5 := grownCap_ge w _ _ _
    have hG63 : grownCap w n 0 5 ≤ maxLen := grownCap_le_maxLen w n 0 5 (by unfold maxLen; omega)
    obtain ⟨G, hG⟩ : ∃ G, G = grownCap w n 0 5 := ⟨_, rfl⟩
    rw [← hG] at hrz hGn hG63
    obtain ⟨cs, hcs⟩ : ∃ cs, cs = (#[] : Array Value) ++ Builtin.zeroCells (Value.int .u8 0).cells n ++ Builtin.zeroCells (Value.int .u8 0).cells (G - n) := ⟨_, rfl⟩
    have hsz : cs.size = G := by rw [hcs]; simp [zero_size]; omega
    rw [← hcs] at hrz
    have HC : Hid (RetA w 5 1 encB ([] : List UInt8) (.returned (.slice (some ⟨w.heap.size, 0, none⟩) 0 G)) (w.drew.alloc (.cells cs 5))) := by
      refine ⟨_, rfl, .inr ⟨w.heap.size, 0, G, cs, rfl, ?_, Nat.zero_le _, hG63, by omega, by simp⟩, (fun k hk => ?_), (by repeat (first | exact Below.refl _ _ | assumption | refine Below.drew ?_ | refine bdrewN ?_ _ | refine Below.alloc ?_ (by simp; try omega) _ | refine Below.setCell ?_ (by simp; try omega) _))⟩
      · exact heap_alloc_new w.drew _
      · simp [Value.ownBlock] at hk; omega
    have HR := Lib.hid hrz
    clear hG hsz hcs hi hz hz1 hz2 hrz
    go_enter Try.func115, Try.ntmps115
    go_wp2_with (at_builtin; refine Lib.wpList_append_run _ rfl _ _ _ _ rfl _ _ rfl rfl _ _ (HR.out _) ?_)
    all_goals (go_ret; exact HC.out)

/-- bytes that are put together with others -/
structure Pt where
  A : Option Addr
  n : Nat
  cap : Nat
  bs : List UInt8
def Pt.cells (p : Pt) : List Value := [.slice p.A p.n p.cap]
theorem Pt.cells_len (p : Pt) : p.cells.length = 1 := rfl
theorem Pt.cells_one (p : Pt) : ∀ u ∈ p.cells, u.oneCell' = true := by simp [Pt.cells, Value.oneCell']
structure Pt.Rd (w : World) (p : Pt) : Prop where
  sl : BySl w w.heap.size p.A p.bs
  n : p.n = p.bs.length
theorem Pt.Rd.ext {w w' : World} {p : Pt} (h : p.Rd w) (hb : Below w.heap.size w w') : p.Rd w' := ⟨h.sl.ext hb, h.n⟩
theorem Pt.at_ {w : World} {B : Nat} {A : Option Addr} {ps : List Pt} (h : Sl w B 1 Pt.cells A ps) {j : Nat} {p : Pt} (hx : ps[j]? = some p) :
    ∃ b off, A = some ⟨b, off, none⟩ ∧ b < B ∧ w.cell? ⟨b, off + j, none⟩ = some (.slice p.A p.n p.cap) := by
  obtain ⟨b, off, hA, hb, hc⟩ := h.at_ hx
  have := hc 0 _ rfl
  rw [Nat.mul_one] at this
  exact ⟨b, off, hA, hb, this⟩
def allB (ps : List Pt) : List UInt8 := ps.flatMap Pt.bs
theorem allB_take {ps : List Pt} {j : Nat} {p : Pt} (h : ps[j]? = some p) : allB (ps.take (j + 1)) = allB (ps.take j) ++ p.bs := by
  unfold allB
  rw [List.take_add_one, h]
  simp
theorem allB_le (ps : List Pt) (j : Nat) : (allB (ps.take j)).length ≤ (allB ps).length := by
  unfold allB
  conv => rhs; rw [← List.take_append_drop j ps]
  rw [List.flatMap_append, List.length_append]
  omega

/-- how far Concat has come -/
structure CI (w wr : World) (A : Option Addr) (n c : Nat) (bs : List UInt8) : Prop where
  own : OwnA wr 5 1 encB (.slice A n c) bs
  fr : ∀ k, (Value.slice A n c).ownBlock = some k → w.heap.size ≤ k
  be : Below w.heap.size w wr
theorem CI.next {w wr w2 : World} {A A' : Option Addr} {n c n' c' : Nat} {bs ys : List UInt8} (h : CI w wr A n c bs) (hown : OwnA w2 5 1 encB (.slice A' n' c') ys)
    (hc : Chg (fun k => (Value.slice A n c).ownBlock = some k) wr w2) (hat : (Value.slice A' n' c').ownBlock = (Value.slice A n c).ownBlock ∨ (Value.slice A' n' c').ownBlock = some wr.heap.size) : CI w w2 A' n' c' ys := by
  refine ⟨hown, fun k hk => ?_, h.be.trans (hc.below h.be.size fun i hi hs => by have := h.fr _ hs; omega)⟩
  rcases hat with hat | hat
  · exact h.fr k (hat ▸ hk)
  · rw [hat] at hk; injection hk with hk; have := h.be.size; omega

set_option maxHeartbeats 4000000 in
set_option maxRecDepth 100000 in
theorem concat_any (ps : List Pt) (A : Option Addr) (n cap : Nat) (w : World) (hl : Sl w w.heap.size 1 Pt.cells A ps) (hr : ∀ p ∈ ps, p.Rd w) (hn : Hid (n = ps.length)) (hm : n ≤ 1000000) (ht : (allB ps).length ≤ 1000000000000) :
    Calls Try.prog 104 #[.slice A n cap] w (RetA w 5 1 encB (allB ps)) := by
  obtain ⟨i0, hi, hz, hz1, hz2⟩ := info_parts byInfo
  have HL := Lib.hid (And.intro hl hr)
  have HT := Lib.hid ht
  clear hl hr
  go_enter Try.func104, Try.ntmps104
  go_wp2
  go_loopg [3, 11] n (fun g vs vj wr => ∃ j q : Nat, vj = .int .i64 (j : Int) ∧ vs = .int .i64 (q : Int) ∧ n ≤ j + g ∧ j ≤ n ∧ Hid (q = (allB (ps.take j)).length) ∧ wr = w)
  case atStart => exact ⟨0, 0, rfl, rfl, by omega, by omega, rfl, rfl⟩
  case round =>
    obtain ⟨j, q, rfl, rfl, hg, hj, hq, rfl⟩ := hrel
    by_cases hlt : j < n
    · have hj1 : j < ps.length := by rw [← hn.out]; exact hlt
      have hx := List.getElem?_eq_getElem hj1
      obtain ⟨bb, off, rfl, hbb, c0⟩ := Pt.at_ HL.out.1 hx
      have hp := HL.out.2 _ (List.getElem_mem hj1)
      have hnx := allB_take hx
      have hle := allB_le ps (j + 1)
      generalize ps[j] = p at *
      have hq2 : Hid (q + p.n = (allB (ps.take (j + 1))).length) := by rw [Hid, hnx, List.length_append, hq.out, hp.n]
      have hqb : q + p.n ≤ 1000000000000 := by rw [hq2.out]; exact Nat.le_trans hle ht
      have b0 : (0 : Int) ≤ (j : Int) := Int.natCast_nonneg _
      have b2 : (j : Int) < (n : Int) := by omega
      have b3 : decide (j < n) = true := decide_eq_true hlt
      have e1 : IntKind.i64.wrap ((q : Int) + (p.n : Int)) = ((q + p.n : Nat) : Int) := by rw [IntWalk.i64_in _ (by omega)]; omega
      obtain ⟨q2, hqq⟩ : ∃ t, t = q + p.n := ⟨_, rfl⟩
      rw [← hqq] at e1 hq2
      have e2 : ¬ ((q2 : Int) < 0) := by omega
      clear hx hnx hle hp hqq hqb
      go_wp2
      go_roundg (gk - 1)
      case measure => omega
      case rel => exact ⟨j + 1, q2, by go_num, rfl, by omega, by omega, hq2, rfl⟩
    · have hjn : j = n := by omega
      have hqn : Hid (q ≤ 140737488355328) := by
        rw [Hid, hq.out]
        have := allB_le ps j
        have := HT.out
        omega
      have b2 : ¬ (j : Int) < (n : Int) := by omega
      have b3 : decide (j < n) = false := decide_eq_false hlt
      go_wp2_with (go_at_call 115; refine (grow_any q hqn.out _).mono ?_; rintro e w1 ⟨v1, rfl, hown1, hfr1, hb1⟩; obtain ⟨A1, n1, c1, rfl, hn1, hle1, hmx1, hnil1⟩ := hown1.form; have HC : Hid (CI wr w1 A1 n1 c1 []) := ⟨hown1, hfr1, hb1⟩; clear hown1 hfr1 hb1)
      go_loopg [6, 27] n (fun g vo vj wx => ∃ (j : Nat) (A2 : Option Addr) (n2 c2 : Nat), vj = .int .i64 (j : Int) ∧ vo = .slice A2 n2 c2 ∧ n ≤ j + g ∧ j ≤ n ∧ Hid (CI wr wx A2 n2 c2 (allB (ps.take j))))
      case atStart => exact ⟨0, A1, n1, c1, rfl, rfl, by omega, by omega, HC.out⟩
      case round =>
        obtain ⟨k, A2, n2, c2, rfl, rfl, hg2, hk, hCI⟩ := hrel
        by_cases hkl : k < n
        · have hj1 : k < ps.length := by rw [← hn.out]; exact hkl
          have hx := List.getElem?_eq_getElem hj1
          obtain ⟨bb, off, rfl, hbb, c0⟩ := Pt.at_ (HL.out.1.ext hCI.out.be) hx
          have hp := Lib.hid ((HL.out.2 _ (List.getElem_mem hj1)).ext hCI.out.be)
          have hnx := Lib.hid (allB_take hx)
          have hle := allB_le ps (k + 1)
          generalize ps[k] = p at *
          have h1 : Hid ((allB (ps.take k)).length + p.bs.length ≤ maxLen) := by
            have := congrArg List.length hnx.out
            rw [List.length_append] at this
            rw [Hid, ← this]; unfold maxLen; have := HT.out; omega
          have h2 : Hid (((allB (ps.take k)).length + p.bs.length) * 1 ≤ 140737488355328) := by
            have := congrArg List.length hnx.out
            rw [List.length_append] at this
            rw [Hid, ← this]; have := HT.out; omega
          have b0 : (0 : Int) ≤ (k : Int) := Int.natCast_nonneg _
          have b2 : (k : Int) < (n : Int) := by omega
          have b3 : decide (k < n) = true := decide_eq_true hkl
          clear hx hle
          go_wp2_with (at_builtin; refine wpList_append_a _ rfl _ _ _ rfl 5 i0 _ 1 1 Try.underlying25 hi hz hz1 hz2 rfl (by decide) encB_len encB_one _ (allB (ps.take k)) (by rfl) hCI.out.own _ p.A p.bs p.n p.cap (by rfl) hp.out.n hp.out.sl h1.out h2.out ?_; intro v' w' hown' hchg hat; obtain ⟨A3, n3, c3, rfl, hn3, hle3, hmx3, hnil3⟩ := hown'.form; have HA := Lib.hid (And.intro hown' (And.intro hchg hat)); clear hown' hchg hat)
          go_roundg (gk - 1)
          case measure => omega
          case rel => exact ⟨k + 1, A3, n3, c3, by go_num, rfl, by omega, by omega, by rw [hnx.out]; exact hCI.out.next HA.out.1 HA.out.2.1 HA.out.2.2⟩
        · have b2 : ¬ (k : Int) < (n : Int) := by omega
          have b3 : decide (k < n) = false := decide_eq_false hkl
          have hall : Hid (ps.take k = ps) := List.take_of_length_le (by rw [← hn.out]; omega)
          go_wp2
          go_ret
          have h := hCI.out
          rw [hall.out] at h
          exact ⟨_, rfl, h.own, h.fr, h.be⟩
end Go.Proofs.Ytoneechcclndaaa.Wire

namespace Go.Proofs.Ytoneechcclndaaa.Wire
open Go.RowKit Go.ChangeShapes Go.WideShapes Go.ChangeAt
set_option linter.unusedVariables false
set_option linter.unusedSimpArgs false
attribute [local go_sem ↓] Go.wp_at_zero Go.wp_at_succ
open Go.Shelf Go.Proofs.Ytoneechcclndaaa.Word

theorem ptInfo : (Try.prog.info? 25).map (fun i => (i.zero, i.size, i.bytes)) = some (some (.slice none 0 0), 1, 24) := by kernel_rfl
/-- a literal -/
theorem lit_list {α : Type} {enc : α → List Value} {c : Nat} (w : World) (l : List α) (t : TypeId) (he : ∀ x, (enc x).length = c) : Sl (w.alloc (.cells (l.flatMap enc).toArray t)) (w.alloc (.cells (l.flatMap enc).toArray t)).heap.size c enc (some ⟨w.heap.size, 0, none⟩) l := by
  intro _
  refine ⟨w.heap.size, 0, rfl, by simp, fun k y hy j v hv => ?_⟩
  rw [(Blk.new w t _).cell]
  have hj : j < c := by rw [← he y]; exact (List.getElem?_eq_some_iff.1 hv).1
  have := flat_at he l k j y hy hj
  simp only [Nat.zero_add, List.getElem?_toArray]
  rw [this]; exact hv

def Pt.Ok (w : World) (p : Pt) : Prop := OwnA w 5 1 encB (.slice p.A p.n p.cap) p.bs
theorem Pt.Ok.rd {w : World} {p : Pt} (h : p.Ok w) : p.Rd w := ⟨OwnA.sl encB_len h, OwnA.len h⟩
theorem Pt.Ok.ext {w w' : World} {p : Pt} (h : p.Ok w) (hb : Below w.heap.size w w') : p.Ok w' := OwnA.ext h hb
theorem Pt.Ok.chgRow {w w5 : World} {A : Option Addr} {n c : Nat} {ps : List Pt} {p : Pt} (h : p.Ok w) (hrow : OwnA w 25 1 Pt.cells (.slice A n c) ps) (hc : Chg (fun k => (Value.slice A n c).ownBlock = some k) w w5) : p.Ok w5 :=
  OwnA.chg h hc (fun g hg hs => OwnA.apartA hrow h (by decide) hs hg)

/-- how far Row has come -/
structure RI (w wr : World) (l : List Nat) (j : Nat) (A : Option Addr) (n c : Nat) (ps : List Pt) : Prop where
  own : OwnA wr 25 1 Pt.cells (.slice A n c) ps
  ok : ∀ p ∈ ps, p.Ok wr
  bs : ps.map Pt.bs = (l.take j).map putW
  fr : ∀ k, (Value.slice A n c).ownBlock = some k → w.heap.size ≤ k
  be : Below w.heap.size w wr
theorem RI.next {w wr w1 w2 : World} {l : List Nat} {j : Nat} {A A' : Option Addr} {n c n' c' x : Nat} {ps : List Pt} {p : Pt} {o : Obj} (h : RI w wr l j A n c ps) (hx : l[j]? = some x) (hp : p.Ok w1) (hpb : p.bs = putW x) (hb : Below wr.heap.size wr w1)
    (hown : OwnA w2 25 1 Pt.cells (.slice A' n' c') (ps ++ [p]))
    (hc : Chg (fun k => (Value.slice A n c).ownBlock = some k) (w1.alloc o) w2) (hat : (Value.slice A' n' c').ownBlock = (Value.slice A n c).ownBlock ∨ (Value.slice A' n' c').ownBlock = some (w1.alloc o).heap.size) : RI w w2 l (j + 1) A' n' c' (ps ++ [p]) := by
  have hba : Below w1.heap.size w1 (w1.alloc o) := (Below.refl _ _).alloc (Nat.le_refl _) _
  have hbb : Below wr.heap.size wr (w1.alloc o) := hb.trans (hba.mono hb.size)
  have hrow := h.own.ext hbb
  have hbw : Below w.heap.size w (w1.alloc o) := ext_under h.be (Nat.le_refl _) hbb
  refine ⟨hown, fun q hq => ?_, ?_, fun k hk => ?_, hbw.trans (hc.below hbw.size fun i hi hs => by have := h.fr _ hs; omega)⟩
  · rcases List.mem_append.1 hq with hq | hq
    · exact ((h.ok q hq).ext hbb).chgRow hrow hc
    · rw [List.mem_singleton] at hq; subst hq; exact (hp.ext hba).chgRow hrow hc
  · rw [List.map_append, h.bs, List.take_add_one, hx, List.map_append]; simp [hpb]
  · rcases hat with hat | hat
    · exact h.fr k (hat ▸ hk)
    · rw [hat] at hk; injection hk with hk; have := hbw.size; omega
theorem allB_row {ps : List Pt} {l : List Nat} (h : ps.map Pt.bs = l.map putW) : allB ps = rowW l := by
  unfold allB rowW
  rw [List.flatMap_def, List.flatMap_def, h]
theorem rowW_le (l : List Nat) (hl : ∀ x ∈ l, x < p64) : (rowW l).length ≤ 10 * l.length := by
  induction l with
  | nil => simp [rowW]
  | cons x l ih =>
    unfold rowW at *
    rw [List.flatMap_cons, List.length_append, List.length_cons]
    have h1 := putW_len (p64_lt (hl x (by simp)))
    have h2 := ih (fun y hy => hl y (by simp [hy]))
    omega

theorem joined_any (ps : List Pt) (A : Option Addr) (n cap : Nat) (w : World) (hl : Sl w w.heap.size 1 Pt.cells A ps) (hr : ∀ p ∈ ps, p.Rd w) (hn : Hid (n = ps.length)) (hm : n ≤ 1000000) (ht : (allB ps).length ≤ 1000000000000) :
    Calls Try.prog 117 #[.slice A n cap] w (RetA w 5 1 encB (allB ps)) := by
  have h := Lib.hid (concat_any ps A n cap w hl hr hn hm ht)
  clear hl hr ht
  go_enter Try.func117, Try.ntmps117
  go_wp2_with (go_at_call 104; refine h.out.mono ?_; rintro e w3 ⟨v, rfl, h1, h2, h3⟩)
  go_ret
  exact ⟨v, rfl, h1, h2, h3⟩

set_option maxHeartbeats 4000000 in
set_option maxRecDepth 100000 in
theorem row_any (l : List Nat) (A : Option Addr) (n cap : Nat) (w : World) (hl : Sl w w.heap.size 1 encN A l) (hn : Hid (n = l.length)) (hm : n ≤ 1000000) (hw : ∀ x ∈ l, x < p64) :
    Calls Try.prog 107 #[.slice A n cap] w (RetA w 5 1 encB (rowW l)) := by
  obtain ⟨i0, hi, hz, hz1, hz2⟩ := info_parts ptInfo
  have HL := Lib.hid (And.intro hl hw)
  clear hl hw
  go_enter Try.func107, Try.ntmps107
  go_wp2
  go_loopg [3, 8] n (fun g vo vj wr => ∃ (j : Nat) (A2 : Option Addr) (n2 c2 : Nat) (ps : List Pt), vj = .int .i64 (j : Int) ∧ vo = .slice A2 n2 c2 ∧ n ≤ j + g ∧ j ≤ n ∧ Hid (RI w wr l j A2 n2 c2 ps))
  case atStart => exact ⟨0, none, 0, 0, [], rfl, rfl, by omega, by omega, ⟨OwnA.nil_ _ _ _ _, (fun p hp => by cases hp), rfl, (fun k hk => by cases hk), Below.refl _ _⟩⟩
  case round =>
    obtain ⟨j, A2, n2, c2, ps, rfl, rfl, hg, hj, hRI⟩ := hrel
    by_cases hlt : j < n
    · have hj1 : j < l.length := by rw [← hn.out]; exact hlt
      have hx := List.getElem?_eq_getElem hj1
      obtain ⟨bb, off, rfl, hbb, c0⟩ := encN_at (HL.out.1.ext hRI.out.be) hx
      have hxw := HL.out.2 _ (List.getElem_mem hj1)
      have HX := Lib.hid hx
      have hpl : ps.length = j := by
        have := congrArg List.length hRI.out.bs
        simp only [List.length_map, List.length_take] at this
        omega
      have h1 : Hid (ps.length + [(⟨none, 0, 0, []⟩ : Pt)].length ≤ maxLen) := by rw [Hid, hpl]; simp [maxLen]; omega
      have h2 : Hid ((ps.length + [(⟨none, 0, 0, []⟩ : Pt)].length) * 24 ≤ 140737488355328) := by rw [Hid, hpl]; simp; omega
      generalize l[j] = x at *
      have b0 : (0 : Int) ≤ (j : Int) := Int.natCast_nonneg _
      have b2 : (j : Int) < (n : Int) := by omega
      have b3 : decide (j < n) = true := decide_eq_true hlt
      clear hx hpl
      go_wp2_with (first | (go_at_call 96; refine (put_any x hxw _).mono ?_; rintro e w1 ⟨v1, rfl, hown1, hb1⟩; obtain ⟨A1, n1, c1, rfl, hn1, hle1, hmx1⟩ := hown1.form; have HP : Hid ((⟨A1, n1, c1, putW x⟩ : Pt).Ok w1 ∧ Below wr.heap.size wr w1) := ⟨OwnA.of_own hown1, hb1⟩; clear hown1 hb1) | (at_builtin; refine wpList_append_a _ rfl _ _ _ rfl 25 i0 _ 1 24 Try.underlying144 hi hz hz1 hz2 rfl (by decide) Pt.cells_len Pt.cells_one _ ps (by rfl) ((hRI.out.own.ext HP.out.2).alloc _) _ (some ⟨w1.heap.size, 0, none⟩) [⟨A1, n1, c1, putW x⟩] 1 1 (by rfl) rfl (lit_one w1 (⟨A1, n1, c1, putW x⟩ : Pt) 25 rfl) h1.out h2.out ?_; intro v' w' hown' hchg hat; obtain ⟨A3, n3, c3, rfl, hn3, hle3, hmx3, hnil3⟩ := hown'.form; have HA := Lib.hid (And.intro hown' (And.intro hchg hat)); clear hown' hchg hat))
      go_roundg (gk - 1)
      case measure => omega
      case rel => exact ⟨j + 1, A3, n3, c3, ps ++ [⟨A1, n1, c1, putW x⟩], by go_num, rfl, by omega, by omega, hRI.out.next HX.out HP.out.1 rfl HP.out.2 HA.out.1 HA.out.2.1 HA.out.2.2⟩
    · have b2 : ¬ (j : Int) < (n : Int) := by omega
      have b3 : decide (j < n) = false := decide_eq_false hlt
      have hps : Hid (allB ps = rowW l ∧ n2 = ps.length ∧ ps.length = n) := by
        have h3 := hRI.out.bs
        rw [List.take_of_length_le (by rw [← hn.out]; omega)] at h3
        refine ⟨allB_row h3, hRI.out.own.len, ?_⟩
        have := congrArg List.length h3
        simp only [List.length_map] at this
        rw [this, ← hn.out]
      have hjn := Lib.hid (joined_any ps A2 n2 c2 wr (hRI.out.own.sl Pt.cells_len) (fun p hp => (hRI.out.ok p hp).rd) hps.out.2.1 (by rw [hps.out.2.1, hps.out.2.2]; exact hm) (by rw [hps.out.1]; have := rowW_le l HL.out.2; have := hn.out; omega))
      go_wp2_with (go_at_call 117; refine hjn.out.mono ?_; rintro e w3 ⟨v, rfl, k1, k2, k3⟩)
      go_ret
      rw [hps.out.1] at k1
      exact ⟨v, rfl, k1, fun k hk => Nat.le_trans hRI.out.be.size (k2 k hk), ext_under hRI.out.be (Nat.le_refl _) k3⟩
end Go.Proofs.Ytoneechcclndaaa.Wire
