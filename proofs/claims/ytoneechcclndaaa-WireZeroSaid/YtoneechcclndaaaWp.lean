/- wire: the document's same.
wire: the document's Same. -/
import Derived.Test.YtoneechcclndaaaWj
import Derived.Outline
import Derived.BigQuiet
import Derived.Deep.QuietTactic
import Derived.Deep.RegionWith
import Derived.Deep.RegionHeld3
import Derived.Deep.DrawnRows
import Derived.Deep.LoopGhost
import Derived.Deep.DeepCutAuto
import Derived.Laws.EntriesVeiled
namespace Go.Proofs.Ytoneechcclndaaa.Wire
open Go.RowKit Go.ChangeShapes Go.WideShapes Go.ChangeAt
set_option linter.unusedVariables false
set_option linter.unusedSimpArgs false
attribute [local go_sem ↓] Go.wp_at_zero Go.wp_at_succ
open Go.Shelf Go.Proofs.Ytoneechcclndaaa.Word

theorem eqN_drop {l m : List Nat} {j x y : Nat} (hl : l.drop j = x :: l.drop (j + 1)) (hm : m.drop j = y :: m.drop (j + 1)) : eqN (l.drop j) (m.drop j) = ((x == y) && eqN (l.drop (j + 1)) (m.drop (j + 1))) := by rw [hl, hm, eqN]

set_option maxHeartbeats 4000000 in
theorem rsame_any (a b : Wr) (w : World) (ha : a.Rd w) (hb : b.Rd w) : Calls Try.prog 59 #[a.agg, b.agg] w fun e w' => e = .returned (.bool (eqV a.v b.v)) ∧ Below w.heap.size w w' := by
  obtain ⟨⟨n1, i1, f1, x1, l1⟩, A1, bn1, bc1, L1, ln1, lc1⟩ := a
  obtain ⟨⟨n2, i2, f2, x2, l2⟩, A2, bn2, bc2, L2, ln2, lc2⟩ := b
  unfold Wr.agg
  have hB2 : ∀ o o', Below w.heap.size w ((w.alloc o).alloc o') := fun o o' => (by repeat (first | exact Below.refl _ _ | assumption | refine Below.drew ?_ | refine bdrewN ?_ _ | refine Below.alloc ?_ (by simp; try omega) _ | refine Below.setCell ?_ (by simp; try omega) _))
  have hsame : ∀ W, Hid (Below w.heap.size w W) → Calls Try.prog 20 #[.slice A1 bn1 bc1, .slice A2 bn2 bc2] W fun e w' => e = .returned (.bool (Bytes.eqB x1 x2)) ∧ ∃ n, w' = W.drewN n := fun W hW =>
    same_at x1 x2 A1 A2 bn1 bn2 bc1 bc2 W (ha.b.ext hW.out) (hb.b.ext hW.out) ha.bn hb.bn (by have := ha.bn; have := ha.wf.2.2.2.2.1; simp only at *; unfold maxLen; omega) (by have := hb.bn; have := hb.wf.2.2.2.2.1; simp only at *; unfold maxLen; omega)
  have hL1 : Hid (Sl w w.heap.size 1 encN L1 l1 ∧ ln1 = l1.length ∧ l1.length ≤ 1000000) := ⟨ha.l, ha.ln, ha.wf.2.2.2.2.2⟩
  have hL2 : Hid (Sl w w.heap.size 1 encN L2 l2 ∧ ln2 = l2.length ∧ l2.length ≤ 1000000) := ⟨hb.l, hb.ln, hb.wf.2.2.2.2.2⟩
  have hlb1 : ln1 ≤ 1000000 := by rw [hL1.out.2.1]; exact hL1.out.2.2
  have hV : Hid (eqV ⟨n1, i1, f1, x1, l1⟩ ⟨n2, i2, f2, x2, l2⟩ = (n1 == n2 && i1 == i2 && f1 == f2 && Bytes.eqB x1 x2 && eqN l1 l2)) := rfl
  generalize eqV ⟨n1, i1, f1, x1, l1⟩ ⟨n2, i2, f2, x2, l2⟩ = res at *
  clear ha hb
  have HB2 := Lib.hid hB2
  clear hB2
  by_cases hn : n1 = n2
  · subst hn
    by_cases hi : i1 = i2
    · subst hi
      by_cases hf : f1 = f2
      · subst hf
        have hV2 : Hid (res = (Bytes.eqB x1 x2 && eqN l1 l2)) := by rw [Hid, hV.out]; simp
        cases hq : Bytes.eqB x1 x2 with
        | false =>
          rw [hq] at hsame hV2
          have HV : Hid (res = false) := by rw [Hid, hV2.out]; rfl
          clear hq
          go_enter Try.func59, Try.ntmps59
          go_wp2_with (go_at_call 20; refine (hsame _ ?_).mono ?_; exact Lib.hid (by repeat (first | exact Below.refl _ _ | assumption | refine Below.drew ?_ | refine bdrewN ?_ _ | refine Below.alloc ?_ (by simp; try omega) _ | refine Below.setCell ?_ (by simp; try omega) _)); rintro e w' ⟨rfl, nq, rfl⟩)
          go_ret
          exact ⟨ret_bool HV.out.symm, (by repeat (first | exact Below.refl _ _ | assumption | refine Below.drew ?_ | refine bdrewN ?_ _ | refine Below.alloc ?_ (by simp; try omega) _ | refine Below.setCell ?_ (by simp; try omega) _))⟩
        | true =>
          rw [hq] at hsame hV2
          have HV : Hid (res = eqN l1 l2) := by rw [Hid, hV2.out]; rfl
          clear hq
          by_cases hln : ln1 = ln2
          · subst hln
            go_enter Try.func59, Try.ntmps59
            go_wp2_with (go_at_call 20; refine (hsame _ ?_).mono ?_; exact Lib.hid (by repeat (first | exact Below.refl _ _ | assumption | refine Below.drew ?_ | refine bdrewN ?_ _ | refine Below.alloc ?_ (by simp; try omega) _ | refine Below.setCell ?_ (by simp; try omega) _)); rintro e w' ⟨rfl, nq, rfl⟩)
            go_loopg [5] ln1 (fun g v wr => ∃ j : Nat, ln1 ≤ j + g ∧ j ≤ ln1 ∧ v = .int .i64 (j : Int) ∧ Hid (eqN l1 l2 = eqN (l1.drop j) (l2.drop j)) ∧ Hid (∃ n, wr = ((w.alloc (.cells #[.int .u64 (n1 : Int), .int .i64 i1, .bool f1, .slice A1 bn1 bc1, .slice L1 ln1 lc1] 38)).alloc (.cells #[.int .u64 (n1 : Int), .int .i64 i1, .bool f1, .slice A2 bn2 bc2, .slice L2 ln1 lc2] 38)).drewN n))
            case atStart => exact ⟨0, by omega, by omega, rfl, rfl, nq, rfl⟩
            case round =>
              obtain ⟨j, hg, hj, rfl, hf, nn, rfl⟩ := hrel
              by_cases hlt : j < ln1
              · have hj1 : j < l1.length := by rw [← hL1.out.2.1]; exact hlt
                have hj2 : j < l2.length := by rw [← hL2.out.2.1]; exact hlt
                obtain ⟨bb, off, rfl, hbb, c0⟩ := encN_at hL1.out.1 (List.getElem?_eq_getElem hj1)
                obtain ⟨bb', off', rfl, hbb', d0⟩ := encN_at hL2.out.1 (List.getElem?_eq_getElem hj2)
                have HE := Lib.hid (eqN_drop (List.drop_eq_getElem_cons hj1) (List.drop_eq_getElem_cons hj2))
                have c8 : bb ≠ w.heap.size := by omega
                have c7 : bb ≠ w.heap.size + 1 := by omega
                have d8 : bb' ≠ w.heap.size := by omega
                have d7 : bb' ≠ w.heap.size + 1 := by omega
                have b0 : (0 : Int) ≤ (j : Int) := Int.natCast_nonneg _
                have b2 : (j : Int) < (ln1 : Int) := by omega
                generalize l1[j] = y1 at *
                generalize l2[j] = y2 at *
                by_cases hy : y1 = y2
                · have HF : Hid (eqN l1 l2 = eqN (l1.drop (j + 1)) (l2.drop (j + 1))) := by rw [Hid, hf.out, HE.out, hy]; simp
                  have e9 : ((y1 : Int) != (y2 : Int)) = false := by simp [hy]
                  have e8 : (y1 != y2) = false := by simp [hy]
                  clear hy
                  go_wp2
                  go_quiet (fail)
                  go_wp2
                  go_roundg (gk - 1)
                  case measure => omega
                  case rel => exact ⟨j + 1, by omega, by omega, by go_num, HF.out, nn + nq, by first | rfl | exact World.drewN_drewN _ _ _⟩
                · have HF : Hid (res = false) := by rw [Hid, HV.out, hf.out, HE.out, show (y1 == y2) = false from by simpa using hy]; rfl
                  have e9 : ((y1 : Int) != (y2 : Int)) = true := by simp; omega
                  have e8 : (y1 != y2) = true := by simpa using hy
                  clear hy
                  go_wp2
                  go_quiet (fail)
                  go_wp2
                  go_ret
                  exact ⟨ret_bool HF.out.symm, (by repeat (first | exact Below.refl _ _ | assumption | refine Below.drew ?_ | refine bdrewN ?_ _ | refine Below.alloc ?_ (by simp; try omega) _ | refine Below.setCell ?_ (by simp; try omega) _))⟩
              · have HF : Hid (res = true) := by
                  rw [Hid, HV.out, hf.out, List.drop_of_length_le (by rw [← hL1.out.2.1]; omega), List.drop_of_length_le (by rw [← hL2.out.2.1]; omega)]; rfl
                have b2 : ¬ (j : Int) < (ln1 : Int) := by omega
                go_wp2
                go_ret
                exact ⟨ret_bool HF.out.symm, (by repeat (first | exact Below.refl _ _ | assumption | refine Below.drew ?_ | refine bdrewN ?_ _ | refine Below.alloc ?_ (by simp; try omega) _ | refine Below.setCell ?_ (by simp; try omega) _))⟩
          · have HV2 : Hid (res = false) := by rw [Hid, HV.out, eqN_len (by rw [← hL1.out.2.1, ← hL2.out.2.1]; exact hln)]
            have h9 : ((ln1 : Int) != (ln2 : Int)) = true := by simp; omega
            have h8 : (ln1 != ln2) = true := by simpa using hln
            go_enter Try.func59, Try.ntmps59
            go_wp2_with (go_at_call 20; refine (hsame _ ?_).mono ?_; exact Lib.hid (by repeat (first | exact Below.refl _ _ | assumption | refine Below.drew ?_ | refine bdrewN ?_ _ | refine Below.alloc ?_ (by simp; try omega) _ | refine Below.setCell ?_ (by simp; try omega) _)); rintro e w' ⟨rfl, nq, rfl⟩)
            go_ret
            exact ⟨ret_bool HV2.out.symm, (by repeat (first | exact Below.refl _ _ | assumption | refine Below.drew ?_ | refine bdrewN ?_ _ | refine Below.alloc ?_ (by simp; try omega) _ | refine Below.setCell ?_ (by simp; try omega) _))⟩
      · have HV : Hid (res = false) := by rw [Hid, hV.out, show (f1 == f2) = false from by simpa using hf]; simp
        have h9 : (f1 != f2) = true := by simpa using hf
        go_enter Try.func59, Try.ntmps59
        go_wp2
        go_ret
        exact ⟨ret_bool HV.out.symm, (by repeat (first | exact Below.refl _ _ | assumption | refine Below.drew ?_ | refine bdrewN ?_ _ | refine Below.alloc ?_ (by simp; try omega) _ | refine Below.setCell ?_ (by simp; try omega) _))⟩
    · have HV : Hid (res = false) := by rw [Hid, hV.out, show (i1 == i2) = false from by simpa using hi]; simp
      have h9 : (i1 != i2) = true := by simpa using hi
      go_enter Try.func59, Try.ntmps59
      go_wp2
      go_ret
      exact ⟨ret_bool HV.out.symm, (by repeat (first | exact Below.refl _ _ | assumption | refine Below.drew ?_ | refine bdrewN ?_ _ | refine Below.alloc ?_ (by simp; try omega) _ | refine Below.setCell ?_ (by simp; try omega) _))⟩
  · have HV : Hid (res = false) := by rw [Hid, hV.out, show (n1 == n2) = false from by simpa using hn]; simp
    have h9 : ((n1 : Int) != (n2 : Int)) = true := by simp; omega
    have h8 : (n1 != n2) = true := by simpa using hn
    go_enter Try.func59, Try.ntmps59
    go_wp2
    go_ret
    exact ⟨ret_bool HV.out.symm, (by repeat (first | exact Below.refl _ _ | assumption | refine Below.drew ?_ | refine bdrewN ?_ _ | refine Below.alloc ?_ (by simp; try omega) _ | refine Below.setCell ?_ (by simp; try omega) _))⟩
end Go.Proofs.Ytoneechcclndaaa.Wire

namespace Go.Proofs.Ytoneechcclndaaa.Wire
open Go.RowKit Go.ChangeShapes Go.WideShapes Go.ChangeAt
set_option linter.unusedVariables false
set_option linter.unusedSimpArgs false
attribute [local go_sem ↓] Go.wp_at_zero Go.wp_at_succ
open Go.Shelf Go.Proofs.Ytoneechcclndaaa.Word

/-- a row of values that may be read -/
structure VRd (w : World) (A : Option Addr) (n : Nat) (rs : List Wr) : Prop where
  sl : Sl w w.heap.size 5 Wr.cells A rs
  n : Hid (n = rs.length)
  rd : ∀ r ∈ rs, r.Rd w
  le : rs.length ≤ 1000000
theorem VRd.ext {w w' : World} {A : Option Addr} {n : Nat} {rs : List Wr} (h : VRd w A n rs) (hb : Below w.heap.size w w') : VRd w' A n rs := ⟨h.sl.ext hb, h.n, fun r hr => (h.rd r hr).ext hb, h.le⟩
theorem VOwn.rd {B : Nat} {w : World} {A : Option Addr} {n c : Nat} {rs : List Wr} (h : VOwn B w A n c rs) (hl : rs.length ≤ 1000000) : VRd w A n rs := ⟨h.own.sl Wr.cells_len, h.own.len, fun r hr => (h.ok r hr).rd, hl⟩
theorem Wr.at_ {w : World} {B : Nat} {A : Option Addr} {rs : List Wr} (h : Sl w B 5 Wr.cells A rs) {j : Nat} {r : Wr} (hx : rs[j]? = some r) :
    ∃ b off, A = some ⟨b, off, none⟩ ∧ b < B ∧ w.cell? ⟨b, off + j * 5, none⟩ = some (.int .u64 (r.v.n : Int)) ∧ w.cell? ⟨b, off + j * 5 + 1, none⟩ = some (.int .i64 r.v.i) ∧ w.cell? ⟨b, off + j * 5 + 2, none⟩ = some (.bool r.v.f) ∧ w.cell? ⟨b, off + j * 5 + 3, none⟩ = some (.slice r.bA r.bn r.bc) ∧ w.cell? ⟨b, off + j * 5 + 4, none⟩ = some (.slice r.lA r.ln r.lc) := by
  obtain ⟨b, off, hA, hb, hc⟩ := h.at_ hx
  exact ⟨b, off, hA, hb, hc 0 _ rfl, hc 1 _ rfl, hc 2 _ rfl, hc 3 _ rfl, hc 4 _ rfl⟩

def eqVs : List WV → List WV → Bool
  | [], [] => true
  | a :: l, b :: m => eqV a b && eqVs l m
  | _, _ => false
theorem eqVs_iff : ∀ l m : List WV, eqVs l m = true ↔ l = m
  | [], [] => by simp [eqVs]
  | a :: l, b :: m => by simp only [eqVs, Bool.and_eq_true, eqV_iff, eqVs_iff l m, List.cons.injEq]
  | [], b :: m => by simp [eqVs]
  | a :: l, [] => by simp [eqVs]
theorem eqVs_self (l : List WV) : eqVs l l = true := (eqVs_iff l l).2 rfl
theorem eqVs_len {l m : List WV} (h : l.length ≠ m.length) : eqVs l m = false := by
  cases he : eqVs l m with
  | false => rfl
  | true => exact absurd (congrArg List.length ((eqVs_iff l m).1 he)) h
theorem eqVs_drop {l m : List Wr} {j : Nat} {x y : Wr} (hl : l.drop j = x :: l.drop (j + 1)) (hm : m.drop j = y :: m.drop (j + 1)) :
    eqVs ((l.drop j).map Wr.v) ((m.drop j).map Wr.v) = (eqV x.v y.v && eqVs ((l.drop (j + 1)).map Wr.v) ((m.drop (j + 1)).map Wr.v)) := by rw [hl, hm]; rfl

set_option maxHeartbeats 4000000 in
theorem rSame_any (ls ms : List Wr) (A B : Option Addr) (nl nm ca cb : Nat) (w : World) (hl : VRd w A nl ls) (hm : VRd w B nm ms) :
    Calls Try.prog 21 #[.slice A nl ca, .slice B nm cb] w fun e w' => e = .returned (.bool (eqVs (ls.map Wr.v) (ms.map Wr.v))) ∧ Below w.heap.size w w' := by
  by_cases hn : nl = nm
  · subst hn
    have HL := Lib.hid hl
    have HM := Lib.hid hm
    have hlb : nl ≤ 1000000 := by rw [hl.n.out]; exact hl.le
    clear hl hm
    go_enter Try.func21, Try.ntmps21
    go_wp2
    go_loopg [5] nl (fun g v wr => ∃ j : Nat, nl ≤ j + g ∧ j ≤ nl ∧ v = .int .i64 (j : Int) ∧ Hid (eqVs (ls.map Wr.v) (ms.map Wr.v) = eqVs ((ls.drop j).map Wr.v) ((ms.drop j).map Wr.v)) ∧ Hid (Below w.heap.size w wr))
    case atStart => exact ⟨0, by omega, by omega, rfl, rfl, Below.refl _ _⟩
    case round =>
      obtain ⟨j, hg, hj, rfl, hf, hB⟩ := hrel
      by_cases hlt : j < nl
      · have hj1 : j < ls.length := by rw [← HL.out.n.out]; exact hlt
        have hj2 : j < ms.length := by rw [← HM.out.n.out]; exact hlt
        have HL2 := Lib.hid (HL.out.ext hB.out)
        have HM2 := Lib.hid (HM.out.ext hB.out)
        obtain ⟨bb, off, rfl, hbb, c0, c1, c2, c3, c4⟩ := Wr.at_ HL2.out.sl (List.getElem?_eq_getElem hj1)
        obtain ⟨bb', off', rfl, hbb', d0, d1, d2, d3, d4⟩ := Wr.at_ HM2.out.sl (List.getElem?_eq_getElem hj2)
        have HE := Lib.hid (eqVs_drop (List.drop_eq_getElem_cons hj1) (List.drop_eq_getElem_cons hj2))
        have hsm := rsame_any ls[j] ms[j] wr (HL2.out.rd _ (List.getElem_mem hj1)) (HM2.out.rd _ (List.getElem_mem hj2))
        have hsm2 : ∀ k, Calls Try.prog 59 #[ls[j].agg, ms[j].agg] (wr.drewN k) fun e w' => e = .returned (.bool (eqV ls[j].v ms[j].v)) ∧ Below (wr.drewN k).heap.size (wr.drewN k) w' := fun k =>
          rsame_any ls[j] ms[j] (wr.drewN k) ((HL2.out.rd _ (List.getElem_mem hj1)).ext (bdrewN (Below.refl _ _) k)) ((HM2.out.rd _ (List.getElem_mem hj2)).ext (bdrewN (Below.refl _ _) k))
        have hsm3 := hsm2 1
        have b0 : (0 : Int) ≤ (j : Int) := Int.natCast_nonneg _
        have b2 : (j : Int) < (nl : Int) := by omega
        generalize ls[j] = x at *
        generalize ms[j] = y at *
        unfold Wr.agg at hsm3
        cases hq : eqV x.v y.v with
        | true =>
          have HF : Hid (eqVs (ls.map Wr.v) (ms.map Wr.v) = eqVs ((ls.drop (j + 1)).map Wr.v) ((ms.drop (j + 1)).map Wr.v)) := by rw [Hid, hf.out, HE.out, hq]; rfl
          rw [hq] at hsm3
          have HS := Lib.hid hsm3
          clear hsm hsm2 hsm3 hq
          go_wp2
          go_region_with (go_at_call 59; refine HS.out.mono ?_; rintro e w3 ⟨rfl, hb3⟩)
          all_goals (
            have hb5 : Below wr.heap.size wr w3 := ⟨hb3.os, hb3.tape, hb3.output, hb3.size, hb3.block⟩
            have hb6 := Lib.hid (ext_under hB.out (Nat.le_refl _) hb5)
            clear hb5 hb3
            go_wp2
            go_roundg (gk - 1)
            case measure => omega
            case rel => exact ⟨j + 1, by omega, by omega, by go_num, HF.out, hb6.out⟩)
        | false =>
          have HF : Hid (eqVs (ls.map Wr.v) (ms.map Wr.v) = false) := by rw [Hid, hf.out, HE.out, hq]; rfl
          rw [hq] at hsm3
          have HS := Lib.hid hsm3
          clear hsm hsm2 hsm3 hq
          go_wp2
          go_region_with (go_at_call 59; refine HS.out.mono ?_; rintro e w3 ⟨rfl, hb3⟩)
          all_goals (
            have hb5 : Below wr.heap.size wr w3 := ⟨hb3.os, hb3.tape, hb3.output, hb3.size, hb3.block⟩
            have hb6 := Lib.hid (ext_under hB.out (Nat.le_refl _) hb5)
            clear hb5 hb3
            go_wp2
            go_ret
            exact ⟨ret_bool HF.out.symm, hb6.out⟩)
      · have HF : Hid (eqVs (ls.map Wr.v) (ms.map Wr.v) = true) := by
          rw [Hid, hf.out, List.drop_of_length_le (by rw [← HL.out.n.out]; omega), List.drop_of_length_le (by rw [← HM.out.n.out]; omega)]; rfl
        have b2 : ¬ (j : Int) < (nl : Int) := by omega
        go_wp2
        go_ret
        exact ⟨ret_bool HF.out.symm, hB.out⟩
  · have HF : Hid (eqVs (ls.map Wr.v) (ms.map Wr.v) = false) := eqVs_len (by rw [List.length_map, List.length_map, ← hl.n.out, ← hm.n.out]; exact hn)
    have h9 : ((nl : Int) != (nm : Int)) = true := by simp; omega
    have h8 : (nl != nm) = true := by simpa using hn
    clear hl hm
    go_enter Try.func21, Try.ntmps21
    go_wp2
    go_ret
    exact ⟨ret_bool HF.out.symm, Below.refl _ _⟩
end Go.Proofs.Ytoneechcclndaaa.Wire
