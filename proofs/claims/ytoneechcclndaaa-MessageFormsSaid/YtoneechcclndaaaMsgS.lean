/- message: the program's Same. -/
import Derived.Test.YtoneechcclndaaaMsgE
import Derived.Outline
import Derived.BigQuiet
import Derived.Deep.QuietTactic
import Derived.Deep.RegionWith
import Derived.Deep.RegionHeld3
import Derived.Deep.DrawnRows
import Derived.Deep.LoopGhost
import Derived.Deep.DeepCutAuto
import Derived.Laws.EntriesVeiled
namespace Go.Proofs.Ytoneechcclndaaa.Msg
open Go.RowKit Go.ChangeShapes Go.WideShapes Go.ChangeAt
set_option linter.unusedVariables false
set_option linter.unusedSimpArgs false
attribute [local go_sem ↓] Go.wp_at_zero Go.wp_at_succ
open Go.Shelf Go.Proofs.Ytoneechcclndaaa.Word Go.Proofs.Ytoneechcclndaaa.Wire

set_option maxHeartbeats 4000000 in
theorem Same_any (a b : Mr) (w : World) (ha : a.Rd w) (hb : b.Rd w) : Calls Try.prog 37 #[a.agg, b.agg] w fun e w' => e = .returned (.bool (sameM a.v b.v)) ∧ Below w.heap.size w w' := by
  obtain ⟨⟨k1, c1, e1, w1, s1, l1, x1⟩, A1, n1, m1⟩ := a
  obtain ⟨⟨k2, c2, e2, w2, s2, l2, x2⟩, A2, n2, m2⟩ := b
  unfold Mr.agg
  have hsame : ∀ W, Hid (Below w.heap.size w W) → Calls Try.prog 68 #[.slice A1 n1 m1, .slice A2 n2 m2] W fun e w' => e = .returned (.bool (Bytes.eqB x1 x2)) ∧ W = w' := fun W hW =>
    bytesEqual_any x1 x2 A1 A2 n1 n2 m1 m2 W (ha.b.ext hW.out) (hb.b.ext hW.out) ha.n.out hb.n.out
  have hV : Hid (sameM ⟨k1, c1, e1, w1, s1, l1, x1⟩ ⟨k2, c2, e2, w2, s2, l2, x2⟩ = (k1 == k2 && (c1 == c2 && (e1 == e2 && (w1 == w2 && (s1 == s2 && (l1 == l2 && Bytes.eqB x1 x2))))))) := rfl
  generalize sameM ⟨k1, c1, e1, w1, s1, l1, x1⟩ ⟨k2, c2, e2, w2, s2, l2, x2⟩ = res at *
  clear ha hb
  by_cases hk : k1 = k2
  · subst hk
    by_cases hc : c1 = c2
    · subst hc
      by_cases he : e1 = e2
      · subst he
        by_cases hw : w1 = w2
        · subst hw
          by_cases hs : s1 = s2
          · subst hs
            by_cases hl : l1 = l2
            · subst hl
              have HV : Hid (res = Bytes.eqB x1 x2) := by rw [Hid, hV.out]; simp
              generalize Bytes.eqB x1 x2 = q at *
              go_enter Try.func37, Try.ntmps37
              go_wp2_with (go_at_call 68; refine (hsame _ ?_).mono ?_; exact Lib.hid (by repeat (first | exact Below.refl _ _ | assumption | refine Below.drew ?_ | refine bdrewN ?_ _ | refine Below.alloc ?_ (by simp; try omega) _ | refine Below.setCell ?_ (by simp; try omega) _)); rintro e w' ⟨rfl, rfl⟩)
              go_ret
              exact ⟨ret_bool HV.out.symm, (by repeat (first | exact Below.refl _ _ | assumption | refine Below.drew ?_ | refine bdrewN ?_ _ | refine Below.alloc ?_ (by simp; try omega) _ | refine Below.setCell ?_ (by simp; try omega) _))⟩
            · have HV : Hid (res = false) := by rw [Hid, hV.out, show (l1 == l2) = false from by simpa using hl]; simp
              have h9 : (l1 == l2) = false := by simpa using hl
              clear hsame
              go_enter Try.func37, Try.ntmps37; go_wp2; go_ret; exact ⟨ret_bool HV.out.symm, (by repeat (first | exact Below.refl _ _ | assumption | refine Below.drew ?_ | refine bdrewN ?_ _ | refine Below.alloc ?_ (by simp; try omega) _ | refine Below.setCell ?_ (by simp; try omega) _))⟩
          · have HV : Hid (res = false) := by rw [Hid, hV.out, show (s1 == s2) = false from by simpa using hs]; simp
            have h9 : (s1 == s2) = false := by simpa using hs
            clear hsame
            go_enter Try.func37, Try.ntmps37; go_wp2; go_ret; exact ⟨ret_bool HV.out.symm, (by repeat (first | exact Below.refl _ _ | assumption | refine Below.drew ?_ | refine bdrewN ?_ _ | refine Below.alloc ?_ (by simp; try omega) _ | refine Below.setCell ?_ (by simp; try omega) _))⟩
        · have HV : Hid (res = false) := by rw [Hid, hV.out, show (w1 == w2) = false from by simpa using hw]; simp
          have h9 : (w1 == w2) = false := by simpa using hw
          clear hsame
          go_enter Try.func37, Try.ntmps37; go_wp2; go_ret; exact ⟨ret_bool HV.out.symm, (by repeat (first | exact Below.refl _ _ | assumption | refine Below.drew ?_ | refine bdrewN ?_ _ | refine Below.alloc ?_ (by simp; try omega) _ | refine Below.setCell ?_ (by simp; try omega) _))⟩
      · have HV : Hid (res = false) := by rw [Hid, hV.out, show (e1 == e2) = false from by simpa using he]; simp
        have h9 : (e1 == e2) = false := by simpa using he
        clear hsame
        go_enter Try.func37, Try.ntmps37; go_wp2; go_ret; exact ⟨ret_bool HV.out.symm, (by repeat (first | exact Below.refl _ _ | assumption | refine Below.drew ?_ | refine bdrewN ?_ _ | refine Below.alloc ?_ (by simp; try omega) _ | refine Below.setCell ?_ (by simp; try omega) _))⟩
    · have HV : Hid (res = false) := by rw [Hid, hV.out, show (c1 == c2) = false from by simpa using hc]; simp
      have h9 : (c1 == c2) = false := by simpa using hc
      clear hsame
      go_enter Try.func37, Try.ntmps37; go_wp2; go_ret; exact ⟨ret_bool HV.out.symm, (by repeat (first | exact Below.refl _ _ | assumption | refine Below.drew ?_ | refine bdrewN ?_ _ | refine Below.alloc ?_ (by simp; try omega) _ | refine Below.setCell ?_ (by simp; try omega) _))⟩
  · have HV : Hid (res = false) := by rw [Hid, hV.out, show (k1 == k2) = false from by simpa using hk]; simp
    have h9 : ((k1 : Int) == (k2 : Int)) = false := by simp; omega
    have h8 : (k1 == k2) = false := by simpa using hk
    clear hsame
    go_enter Try.func37, Try.ntmps37; go_wp2; go_ret; exact ⟨ret_bool HV.out.symm, (by repeat (first | exact Below.refl _ _ | assumption | refine Below.drew ?_ | refine bdrewN ?_ _ | refine Below.alloc ?_ (by simp; try omega) _ | refine Below.setCell ?_ (by simp; try omega) _))⟩
theorem Same_v (a b : Mr) (r : Bool) (w : World) (ha : a.Rd w) (hb : b.Rd w) (hv : sameM a.v b.v = r) : Calls Try.prog 37 #[a.agg, b.agg] w fun e w' => e = .returned (.bool r) ∧ Below w.heap.size w w' := by
  subst hv; exact Same_any a b w ha hb
theorem sameM_self (m : Ms) : sameM m m = true := by simp [sameM, Bytes.eqB_self]
end Go.Proofs.Ytoneechcclndaaa.Msg
