/- wire: the program's bare, Same. -/
import Derived.Test.YtiommdidkhohgaaPutA
import Derived.Outline
import Derived.BigQuiet
import Derived.Deep.QuietTactic
import Derived.Deep.RegionWith
import Derived.Deep.RegionHeld3
import Derived.Deep.DrawnRows
import Derived.Deep.LoopGhost
import Derived.Deep.DeepCutAuto
import Derived.Laws.EntriesVeiled
namespace Go.Proofs.Ytiommdidkhohgaa.Wire
open Go.RowKit Go.ChangeShapes Go.WideShapes Go.ChangeAt
set_option linter.unusedVariables false
set_option linter.unusedSimpArgs false
attribute [local go_sem ↓] Go.wp_at_zero Go.wp_at_succ
open Go.Shelf Go.Proofs.Ytiommdidkhohgaa.Word

/-- a value without what a letter has -/
def Wr.bare (k : Kd) (r : Wr) : Wr :=
  match k with
  | .nat => { r with v := { r.v with n := 0 } }
  | .int => { r with v := { r.v with i := 0 } }
  | .flag => { r with v := { r.v with f := false } }
  | .bytes => { r with v := { r.v with b := [] }, bA := none, bn := 0, bc := 0 }
  | .row => { r with v := { r.v with l := [] }, lA := none, ln := 0, lc := 0 }
theorem Wr.Rd.bare {w : World} {r : Wr} (h : r.Rd w) (k : Kd) : (r.bare k).Rd w := by
  cases k with
  | nat => exact ⟨h.b, h.bn, h.l, h.ln, wv0_wf.1, h.wf.2⟩
  | int => exact ⟨h.b, h.bn, h.l, h.ln, h.wf.1, wv0_wf.2.1, wv0_wf.2.2.1, h.wf.2.2.2⟩
  | flag => exact ⟨h.b, h.bn, h.l, h.ln, h.wf⟩
  | bytes => exact ⟨Sl.nil _ _ _ _ _, rfl, h.l, h.ln, h.wf.1, h.wf.2.1, h.wf.2.2.1, h.wf.2.2.2.1, wv0_wf.2.2.2.2.1, h.wf.2.2.2.2.2⟩
  | row => exact ⟨h.b, h.bn, Sl.nil _ _ _ _ _, rfl, h.wf.1, h.wf.2.1, h.wf.2.2.1, (by intro x hx; cases hx), h.wf.2.2.2.2.1, wv0_wf.2.2.2.2.2⟩
theorem wr0_rd (w : World) : wr0.Rd w := ⟨Sl.nil _ _ _ _ _, rfl, Sl.nil _ _ _ _ _, rfl, wv0_wf⟩
theorem eqB_nil (l : List UInt8) : Bytes.eqB l [] = l.isEmpty := by cases l <;> rfl
theorem eqN_nil (l : List Nat) : eqN l [] = l.isEmpty := by cases l <;> rfl
theorem fits_bare (k : Kd) (r : Wr) : eqV (r.bare k).v wr0.v = fitsK k r.v := by
  obtain ⟨⟨n, i, f, b, l⟩, A, bn, bc, L, ln, lc⟩ := r
  cases k <;> simp only [Wr.bare, wr0, wv0, eqV, fitsK, eqB_nil, eqN_nil] <;> cases f <;> simp

set_option maxHeartbeats 2000000 in
theorem bare_any (r : Wr) (k : Kd) (w : World) : Calls Try.prog 45 #[r.agg, .int .u8 (k.byte : Int)] w fun e w' => e = .returned (r.bare k).agg ∧ Below w.heap.size w w' := by
  obtain ⟨⟨n, i, f, b, l⟩, A, bn, bc, L, ln, lc⟩ := r
  cases k <;> (
    unfold Wr.agg Wr.bare Kd.byte
    go_enter Try.func45, Try.ntmps45
    go_wp2
    refine bodyPost_ret (v := _) ?_ rfl ⟨rfl, (by repeat (first | exact Below.refl _ _ | assumption | refine Below.drew ?_ | refine bdrewN ?_ _ | refine Below.alloc ?_ (by simp; try omega) _ | refine Below.setCell ?_ (by simp; try omega) _))⟩
    simp [results, Try.results45, go_sem])

set_option maxHeartbeats 4000000 in
theorem equalF_any (ls ms : List Wr) (A B : Option Addr) (nl nm ca cb : Nat) (w : World) (hl : VRd w A nl ls) (hm : VRd w B nm ms) :
    Calls Try.prog 49 #[.slice A nl ca, .slice B nm cb, .func (.func 44) #[] #[]] w fun e w' => e = .returned (.bool (eqVs (ls.map Wr.v) (ms.map Wr.v))) ∧ Below w.heap.size w w' := by
  by_cases hn : nl = nm
  · subst hn
    have HL := Lib.hid hl
    have HM := Lib.hid hm
    have hlb : nl ≤ 1000000 := by rw [hl.n.out]; exact hl.le
    clear hl hm
    go_enter Try.func49, Try.ntmps49
    go_wp2
    go_loopg [17] nl (fun g v wr => ∃ j : Nat, nl ≤ j + g ∧ j ≤ nl ∧ v = .int .i64 (j : Int) ∧ Hid (eqVs (ls.map Wr.v) (ms.map Wr.v) = eqVs ((ls.drop j).map Wr.v) ((ms.drop j).map Wr.v)) ∧ Hid (Below w.heap.size w wr))
    case atStart => exact ⟨0, by omega, by omega, rfl, rfl, Below.refl _ _⟩
    case round =>
      obtain ⟨j, hg, hj, rfl, hf, hB⟩ := hrel
      by_cases hlt : j < nl
      · have hj1 : j < ls.length := by rw [← HL.out.n.out]; exact hlt
        have hj2 : j < ms.length := by rw [← HM.out.n.out]; exact hlt
        have HL2 := Lib.hid (HL.out.ext hB.out)
        have HM2 := Lib.hid (HM.out.ext hB.out)
        obtain ⟨bb, off, rfl, hbb, c0, c1, c2, c3, c4⟩ := Wr.at_ HL2.out.sl (List.getElem?_eq_getElem hj1)
        obtain ⟨bb', off', rfl, hbb', d0, d1, d2, d3, d4⟩ := Wr.at_ HM2.out.sl (List.getElem?_eq_getElem hj2)
        have HE := Lib.hid (eqVs_drop (List.drop_eq_getElem_cons hj1) (List.drop_eq_getElem_cons hj2))
        have hsm : ∀ W, Hid (Below wr.heap.size wr W) → Calls Try.prog 44 #[ls[j].agg, ms[j].agg] W fun e w' => e = .returned (.bool (eqV ls[j].v ms[j].v)) ∧ Below W.heap.size W w' := fun W hW =>
          same_any ls[j] ms[j] W ((HL2.out.rd _ (List.getElem_mem hj1)).ext hW.out) ((HM2.out.rd _ (List.getElem_mem hj2)).ext hW.out)
        have b0 : (0 : Int) ≤ (j : Int) := Int.natCast_nonneg _
        have b2 : (j : Int) < (nl : Int) := by omega
        have c8 : bb' ≠ wr.heap.size := by omega
        have dd : ∀ (o : Obj) (i : Nat) (u : Value), wr.cell? ⟨bb', i, none⟩ = some u → (wr.alloc o).cell? ⟨bb', i, none⟩ = some u := fun o i u h => (World.cell?_alloc_lt wr o ⟨bb', i, none⟩ hbb').trans h
        generalize ls[j] = x at *
        generalize ms[j] = y at *
        unfold Wr.agg at hsm
        cases hq : eqV x.v y.v with
        | true =>
          have HF : Hid (eqVs (ls.map Wr.v) (ms.map Wr.v) = eqVs ((ls.drop (j + 1)).map Wr.v) ((ms.drop (j + 1)).map Wr.v)) := by rw [Hid, hf.out, HE.out, hq]; rfl
          rw [hq] at hsm
          clear hq dd
          go_wp2_with (go_at_call 44; refine (hsm _ ?_).mono ?_; exact Lib.hid (by repeat (first | exact Below.refl _ _ | assumption | refine Below.drew ?_ | refine bdrewN ?_ _ | refine Below.alloc ?_ (by simp; try omega) _ | refine Below.setCell ?_ (by simp; try omega) _)); rintro e w3 ⟨rfl, hb3⟩; have hb5 : Hid (Below wr.heap.size wr w3) := Lib.hid (Below.trans (by repeat (first | exact Below.refl _ _ | assumption | refine Below.drew ?_ | refine bdrewN ?_ _ | refine Below.alloc ?_ (by simp; try omega) _ | refine Below.setCell ?_ (by simp; try omega) _)) (hb3.mono (by simp; omega))); clear hb3)
          go_roundg (gk - 1)
          case measure => omega
          case rel => exact ⟨j + 1, by omega, by omega, by go_num, HF.out, ext_under hB.out (Nat.le_refl _) hb5.out⟩
        | false =>
          have HF : Hid (eqVs (ls.map Wr.v) (ms.map Wr.v) = false) := by rw [Hid, hf.out, HE.out, hq]; rfl
          rw [hq] at hsm
          clear hq dd
          go_wp2_with (go_at_call 44; refine (hsm _ ?_).mono ?_; exact Lib.hid (by repeat (first | exact Below.refl _ _ | assumption | refine Below.drew ?_ | refine bdrewN ?_ _ | refine Below.alloc ?_ (by simp; try omega) _ | refine Below.setCell ?_ (by simp; try omega) _)); rintro e w3 ⟨rfl, hb3⟩; have hb5 : Hid (Below wr.heap.size wr w3) := Lib.hid (Below.trans (by repeat (first | exact Below.refl _ _ | assumption | refine Below.drew ?_ | refine bdrewN ?_ _ | refine Below.alloc ?_ (by simp; try omega) _ | refine Below.setCell ?_ (by simp; try omega) _)) (hb3.mono (by simp; omega))); clear hb3)
          go_ret
          exact ⟨ret_bool HF.out.symm, ext_under hB.out (Nat.le_refl _) hb5.out⟩
      · have HF : Hid (eqVs (ls.map Wr.v) (ms.map Wr.v) = true) := by
          rw [Hid, hf.out, List.drop_of_length_le (by rw [← HL.out.n.out]; omega), List.drop_of_length_le (by rw [← HM.out.n.out]; omega)]; rfl
        have b2 : ¬ (j : Int) < (nl : Int) := by omega
        go_wp2
        go_ret
        exact ⟨ret_bool HF.out.symm, hB.out⟩
  · have HF : Hid (eqVs (ls.map Wr.v) (ms.map Wr.v) = false) := eqVs_len (by rw [List.length_map, List.length_map, ← hl.n.out, ← hm.n.out]; exact hn)
    have h9 : ((nl : Int) != (nm : Int)) = true := by simp; omega
    have h8 : (nl != nm) = true := by simpa using hn
    clear hl hm
    go_enter Try.func49, Try.ntmps49
    go_wp2
    go_ret
    exact ⟨ret_bool HF.out.symm, Below.refl _ _⟩
theorem Same_any (ls ms : List Wr) (A B : Option Addr) (nl nm ca cb : Nat) (w : World) (hl : VRd w A nl ls) (hm : VRd w B nm ms) :
    Calls Try.prog 26 #[.slice A nl ca, .slice B nm cb] w fun e w' => e = .returned (.bool (eqVs (ls.map Wr.v) (ms.map Wr.v))) ∧ Below w.heap.size w w' := by
  have h := Lib.hid (equalF_any ls ms A B nl nm ca cb w hl hm)
  clear hl hm
  go_enter Try.func26, Try.ntmps26
  go_wp2_with (go_at_call 49; refine h.out.mono ?_; rintro e w3 ⟨rfl, hb3⟩)
  go_ret
  exact ⟨rfl, hb3⟩
end Go.Proofs.Ytiommdidkhohgaa.Wire
