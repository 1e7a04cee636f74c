/- wire: bytes.Equal, slices.Equal; the program's same. -/
import Derived.Test.YtiommdidkhohgaaWireP
import Derived.Laws.IdiomStrings
import Derived.Laws.BytesArg
import Derived.Outline
import Derived.BigQuiet
import Derived.Deep.QuietTactic
import Derived.Deep.RegionWith
import Derived.Deep.RegionHeld3
import Derived.Deep.DrawnRows
import Derived.Deep.LoopGhost
import Derived.Deep.DeepCutAuto
import Derived.Laws.EntriesVeiled
namespace Go.Proofs.Ytiommdidkhohgaa.Wire
open Go.RowKit Go.ChangeShapes Go.WideShapes Go.ChangeAt
set_option linter.unusedVariables false
set_option linter.unusedSimpArgs false
attribute [local go_sem ↓] Go.wp_at_zero Go.wp_at_succ
open Go.Shelf Go.Proofs.Ytiommdidkhohgaa.Word

theorem bytes_str (l : List UInt8) (A : Option Addr) (n cap : Nat) (W : World) (hl : BySl W W.heap.size A l) (hn : n = l.length) : (convert 22 9 (.slice A n cap)).run Try.prog W = .ok (.string ⟨l.toArray⟩) W := by
  subst hn
  rcases A with _ | a
  · have h0 : l = [] := by
      rcases l with _ | ⟨x, l⟩
      · rfl
      · obtain ⟨b, off, h, _⟩ := hl (by simp); cases h
    subst h0
    exact run_convert_bytes_nil W 22 5 Try.underlying22 Try.underlying5 _ cap 9 Try.underlying9
  · refine run_convert_bytes_back W 22 9 5 a cap l Try.underlying22 Try.underlying5 Try.underlying9 (fun j hj => ?_)
    obtain ⟨b, off, hA, hb, hc⟩ := BySl.at_ hl (List.getElem?_eq_getElem hj)
    injection hA with hA
    subst hA
    by_cases h0 : j = 0
    · subst h0; simpa [Addr.add] using hc
    · simpa [Addr.add, h0] using hc
theorem eqB_beq (l m : List UInt8) : (l == m) = Bytes.eqB l m := by rw [Bool.eq_iff_iff, Bytes.eqB_iff, beq_iff_eq]

theorem bytesEqual_any (l m : List UInt8) (A B : Option Addr) (nl nm ca cb : Nat) (w : World) (hl : BySl w w.heap.size A l) (hm : BySl w w.heap.size B m) (hnl : nl = l.length) (hnm : nm = m.length) :
    Calls Try.prog 57 #[.slice A nl ca, .slice B nm cb] w fun e w' => e = .returned (.bool (Bytes.eqB l m)) ∧ w = w' := by
  have h1 := bytes_str l A nl ca w hl hnl
  have h2 := bytes_str m B nm cb w hm hnm
  have he := Lib.hid (eqB_beq l m)
  clear hl hm hnl hnm
  go_enter Try.func57, Try.ntmps57
  go_wp2
  go_ret
  exact ⟨ret_bool (by rw [← he.out]; try simp), rfl⟩

theorem sEqual_any (l m : List Nat) (A B : Option Addr) (nl nm ca cb : Nat) (w : World) (hl : Sl w w.heap.size 1 encN A l) (hm : Sl w w.heap.size 1 encN B m) (hnl : nl = l.length) (hnm : nm = m.length) (hle : nl ≤ 1000000) :
    Calls Try.prog 63 #[.slice A nl ca, .slice B nm cb] w fun e w' => e = .returned (.bool (eqN l m)) ∧ ∃ n, w' = w.drewN n := by
  have HL := Lib.hid (And.intro hl hnl)
  have HM := Lib.hid (And.intro hm hnm)
  clear hl hm hnl hnm
  by_cases hn : nl = nm
  · subst hn
    go_enter Try.func63, Try.ntmps63
    go_wp2
    go_loopg [13] nl (fun g v wr => ∃ j : Nat, nl ≤ j + g ∧ j ≤ nl ∧ v = .int .i64 (j : Int) ∧ Hid (eqN l m = eqN (l.drop j) (m.drop j)) ∧ Hid (∃ n, wr = w.drewN n))
    case atStart => exact ⟨0, by omega, by omega, rfl, rfl, 0, rfl⟩
    case round =>
      obtain ⟨j, hg, hj, rfl, hf, nn, rfl⟩ := hrel
      by_cases hlt : j < nl
      · have hj1 : j < l.length := by rw [← HL.out.2]; exact hlt
        have hj2 : j < m.length := by rw [← HM.out.2]; exact hlt
        obtain ⟨bb, off, rfl, hbb, c0⟩ := encN_at HL.out.1 (List.getElem?_eq_getElem hj1)
        obtain ⟨bb', off', rfl, hbb', d0⟩ := encN_at HM.out.1 (List.getElem?_eq_getElem hj2)
        have HE : Hid (eqN (l.drop j) (m.drop j) = ((l[j] == m[j]) && eqN (l.drop (j + 1)) (m.drop (j + 1)))) := eqN_drop (List.drop_eq_getElem_cons hj1) (List.drop_eq_getElem_cons hj2)
        have b0 : (0 : Int) ≤ (j : Int) := Int.natCast_nonneg _
        have b2 : (j : Int) < (nl : Int) := by omega
        have b3 : decide (j < nl) = true := decide_eq_true hlt
        generalize l[j] = y1 at *
        generalize m[j] = y2 at *
        by_cases hy : y1 = y2
        · have HF : Hid (eqN l m = eqN (l.drop (j + 1)) (m.drop (j + 1))) := by rw [Hid, hf.out, HE.out, hy]; simp
          have e9 : ((y1 : Int) != (y2 : Int)) = false := by simp [hy]
          have e8 : (y1 != y2) = false := by simp [hy]
          clear hy
          go_wp2
          go_quiet (fail)
          go_wp2
          go_roundg (gk - 1)
          case measure => omega
          case rel => exact ⟨j + 1, by omega, by omega, by go_num, HF.out, nn + nq, by first | rfl | exact World.drewN_drewN _ _ _⟩
        · have HF : Hid (eqN l m = false) := by rw [Hid, hf.out, HE.out, show (y1 == y2) = false from by simpa using hy]; rfl
          have e9 : ((y1 : Int) != (y2 : Int)) = true := by simp; omega
          have e8 : (y1 != y2) = true := by simpa using hy
          clear hy
          go_wp2
          go_quiet (fail)
          go_wp2
          go_ret
          exact ⟨ret_bool HF.out.symm, nn + nq, by first | rfl | exact World.drewN_drewN _ _ _⟩
      · have HF : Hid (eqN l m = true) := by
          rw [Hid, hf.out, List.drop_of_length_le (by rw [← HL.out.2]; omega), List.drop_of_length_le (by rw [← HM.out.2]; omega)]; rfl
        have b2 : ¬ (j : Int) < (nl : Int) := by omega
        have b3 : decide (j < nl) = false := decide_eq_false hlt
        go_wp2
        go_ret
        exact ⟨ret_bool HF.out.symm, nn, rfl⟩
  · have HF : Hid (eqN l m = false) := eqN_len (by rw [← HL.out.2, ← HM.out.2]; exact hn)
    have h9 : ((nl : Int) != (nm : Int)) = true := by simp; omega
    have h8 : (nl != nm) = true := by simpa using hn
    go_enter Try.func63, Try.ntmps63
    go_wp2
    go_ret
    exact ⟨ret_bool HF.out.symm, 0, rfl⟩

set_option maxHeartbeats 4000000 in
theorem same_any (a b : Wr) (w : World) (ha : a.Rd w) (hb : b.Rd w) : Calls Try.prog 44 #[a.agg, b.agg] w fun e w' => e = .returned (.bool (eqV a.v b.v)) ∧ Below w.heap.size w w' := by
  obtain ⟨⟨n1, i1, f1, x1, l1⟩, A1, bn1, bc1, L1, ln1, lc1⟩ := a
  obtain ⟨⟨n2, i2, f2, x2, l2⟩, A2, bn2, bc2, L2, ln2, lc2⟩ := b
  unfold Wr.agg
  have hsame : ∀ W, Hid (Below w.heap.size w W) → Calls Try.prog 57 #[.slice A1 bn1 bc1, .slice A2 bn2 bc2] W fun e w' => e = .returned (.bool (Bytes.eqB x1 x2)) ∧ W = w' := fun W hW =>
    bytesEqual_any x1 x2 A1 A2 bn1 bn2 bc1 bc2 W (ha.b.ext hW.out) (hb.b.ext hW.out) ha.bn hb.bn
  have hEq : ∀ W, Hid (Below w.heap.size w W) → Calls Try.prog 63 #[.slice L1 ln1 lc1, .slice L2 ln2 lc2] W fun e w' => e = .returned (.bool (eqN l1 l2)) ∧ ∃ n, w' = W.drewN n := fun W hW =>
    sEqual_any l1 l2 L1 L2 ln1 ln2 lc1 lc2 W (ha.l.ext hW.out) (hb.l.ext hW.out) ha.ln hb.ln (by have := ha.ln; have := ha.wf.2.2.2.2.2; simp only at *; omega)
  have hV : Hid (eqV ⟨n1, i1, f1, x1, l1⟩ ⟨n2, i2, f2, x2, l2⟩ = (n1 == n2 && i1 == i2 && f1 == f2 && Bytes.eqB x1 x2 && eqN l1 l2)) := rfl
  generalize eqV ⟨n1, i1, f1, x1, l1⟩ ⟨n2, i2, f2, x2, l2⟩ = res at *
  clear ha hb
  by_cases hn : n1 = n2
  · subst hn
    by_cases hi : i1 = i2
    · subst hi
      by_cases hf : f1 = f2
      · subst hf
        have hV2 : Hid (res = (Bytes.eqB x1 x2 && eqN l1 l2)) := by rw [Hid, hV.out]; simp
        cases hq : Bytes.eqB x1 x2 with
        | false =>
          rw [hq] at hsame hV2
          have HV : Hid (res = false) := by rw [Hid, hV2.out]; rfl
          clear hq hEq
          go_enter Try.func44, Try.ntmps44
          go_wp2_with (go_at_call 57; refine (hsame _ ?_).mono ?_; exact Lib.hid (by repeat (first | exact Below.refl _ _ | assumption | refine Below.drew ?_ | refine bdrewN ?_ _ | refine Below.alloc ?_ (by simp; try omega) _ | refine Below.setCell ?_ (by simp; try omega) _)); rintro e w' ⟨rfl, rfl⟩)
          go_ret
          exact ⟨ret_bool HV.out.symm, (by repeat (first | exact Below.refl _ _ | assumption | refine Below.drew ?_ | refine bdrewN ?_ _ | refine Below.alloc ?_ (by simp; try omega) _ | refine Below.setCell ?_ (by simp; try omega) _))⟩
        | true =>
          rw [hq] at hsame hV2
          have HV : Hid (res = eqN l1 l2) := by rw [Hid, hV2.out]; rfl
          clear hq
          generalize eqN l1 l2 = qn at *
          go_enter Try.func44, Try.ntmps44
          go_wp2_with (first | (go_at_call 57; refine (hsame _ ?_).mono ?_; exact Lib.hid (by repeat (first | exact Below.refl _ _ | assumption | refine Below.drew ?_ | refine bdrewN ?_ _ | refine Below.alloc ?_ (by simp; try omega) _ | refine Below.setCell ?_ (by simp; try omega) _)); rintro e w' ⟨rfl, rfl⟩) | (go_at_call 63; refine (hEq _ ?_).mono ?_; exact Lib.hid (by repeat (first | exact Below.refl _ _ | assumption | refine Below.drew ?_ | refine bdrewN ?_ _ | refine Below.alloc ?_ (by simp; try omega) _ | refine Below.setCell ?_ (by simp; try omega) _)); rintro e w' ⟨rfl, nq, rfl⟩))
          go_ret
          exact ⟨ret_bool HV.out.symm, (by repeat (first | exact Below.refl _ _ | assumption | refine Below.drew ?_ | refine bdrewN ?_ _ | refine Below.alloc ?_ (by simp; try omega) _ | refine Below.setCell ?_ (by simp; try omega) _))⟩
      · have HV : Hid (res = false) := by rw [Hid, hV.out, show (f1 == f2) = false from by simpa using hf]; simp
        have h9 : (f1 == f2) = false := by simpa using hf
        clear hsame hEq
        go_enter Try.func44, Try.ntmps44
        go_wp2
        go_ret
        exact ⟨ret_bool HV.out.symm, (by repeat (first | exact Below.refl _ _ | assumption | refine Below.drew ?_ | refine bdrewN ?_ _ | refine Below.alloc ?_ (by simp; try omega) _ | refine Below.setCell ?_ (by simp; try omega) _))⟩
    · have HV : Hid (res = false) := by rw [Hid, hV.out, show (i1 == i2) = false from by simpa using hi]; simp
      have h9 : (i1 == i2) = false := by simpa using hi
      clear hsame hEq
      go_enter Try.func44, Try.ntmps44
      go_wp2
      go_ret
      exact ⟨ret_bool HV.out.symm, (by repeat (first | exact Below.refl _ _ | assumption | refine Below.drew ?_ | refine bdrewN ?_ _ | refine Below.alloc ?_ (by simp; try omega) _ | refine Below.setCell ?_ (by simp; try omega) _))⟩
  · have HV : Hid (res = false) := by rw [Hid, hV.out, show (n1 == n2) = false from by simpa using hn]; simp
    have h9 : ((n1 : Int) == (n2 : Int)) = false := by simp; omega
    have h8 : (n1 == n2) = false := by simpa using hn
    clear hsame hEq
    go_enter Try.func44, Try.ntmps44
    go_wp2
    go_ret
    exact ⟨ret_bool HV.out.symm, (by repeat (first | exact Below.refl _ _ | assumption | refine Below.drew ?_ | refine bdrewN ?_ _ | refine Below.alloc ?_ (by simp; try omega) _ | refine Below.setCell ?_ (by simp; try omega) _))⟩
end Go.Proofs.Ytiommdidkhohgaa.Wire
