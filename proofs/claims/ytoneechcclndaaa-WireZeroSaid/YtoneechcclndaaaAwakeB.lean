/- law 04: awake, walked. -/
import Derived.Test.YtoneechcclndaaaAwake04
import Derived.Outline
import Derived.BigQuiet
import Derived.Deep.QuietTactic
import Derived.Deep.RegionWith
import Derived.Deep.RegionHeld3
import Derived.Deep.DrawnRows
import Derived.Deep.LoopGhost
import Derived.Deep.DeepCutAuto
import Derived.Laws.EntriesVeiled
namespace Go.Proofs.Ytoneechcclndaaa.Wire
open Go.RowKit Go.ChangeShapes Go.WideShapes Go.ChangeAt
set_option linter.unusedVariables false
set_option linter.unusedSimpArgs false
attribute [local go_sem ↓] Go.wp_at_zero Go.wp_at_succ
open Go.Shelf Go.Proofs.Ytoneechcclndaaa.Word

theorem lits_rd (w1 : World) : ∀ r ∈ [mkB [7, 8] w1.heap.size, mkL [1, 300] (w1.heap.size + 1)], r.Rd ((w1.alloc (.cells (([7, 8] : List UInt8).flatMap encB).toArray 5)).alloc (.cells (([1, 300] : List Nat).flatMap encN).toArray 34)) := by
  intro r hr
  rcases List.mem_cons.1 hr with rfl | hr
  · exact mkB_rd ((lit_list w1 [7, 8] 5 encB_len).ext (below_1 _ _)) (by decide)
  · rw [List.mem_singleton] at hr
    subst hr
    have h := lit_list (w1.alloc (.cells (([7, 8] : List UInt8).flatMap encB).toArray 5)) [1, 300] 34 encN_len
    have hsz : (w1.alloc (.cells (([7, 8] : List UInt8).flatMap encB).toArray 5)).heap.size = w1.heap.size + 1 := World.size_alloc _ _
    rw [hsz] at h
    exact mkL_rd h (by decide) (by intro x hx; simp at hx; rcases hx with rfl | rfl <;> decide)
theorem two_up {w0 w1 w2 : World} {o : Obj} (h : Below w0.heap.size w0 w1) (hb : Below (w1.alloc o).heap.size (w1.alloc o) w2) : Below w0.heap.size w0 w2 := ext_under h (Nat.le_refl _) ((below_1 w1 o).trans (hb.mono (by simp)))

set_option maxHeartbeats 8000000 in
set_option maxRecDepth 100000 in
theorem awake_any (w : World) : Calls Try.prog 23 #[] w fun e w' => e = .returned (.bool true) ∧ Below w.heap.size w w' := by
  go_enter Try.func23, Try.ntmps23
  go_wp2_with fail
  refine (put_lit [mkN 300, mkI (-1), mkF true] ⟨#[110, 105, 102]⟩ ([172, 2, 1, 1], 0) w (by decide) pl1 (by
    intro r hr
    simp only [List.mem_cons, List.not_mem_nil, or_false] at hr
    rcases hr with rfl | rfl | rfl
    · exact mkN_rd _ _ (by decide)
    · exact mkI_rd _ _ (by decide) (by decide)
    · exact mkF_rd _ _) (by decide)).mono ?_
  rintro e w1 ⟨hb1, A1, n1, c1, rfl, ho1, hf1⟩
  have T1 : Hid (OwnA w1 5 1 encB (.slice A1 n1 c1) [172, 2, 1, 1] ∧ Below w.heap.size w w1) := ⟨ho1, two_up (Below.refl _ _) hb1⟩
  clear hb1 ho1 hf1
  go_wp2_with fail
  refine (put_lit' [mkB [7, 8] w1.heap.size, mkL [1, 300] (w1.heap.size + 1)] ⟨#[98, 108]⟩ ([2, 7, 8, 2, 1, 172, 2], 0) ((w1.alloc (.cells (([7, 8] : List UInt8).flatMap encB).toArray 5)).alloc (.cells (([1, 300] : List Nat).flatMap encN).toArray 34)) _ (by simp) (by decide) (pl2 _ _) (lits_rd w1) (by simp)).mono ?_
  rintro e w2 ⟨hb2, A2, n2, c2, rfl, ho2, hf2⟩
  have hb12 : Below w1.heap.size w1 w2 := two_up (((below_1 w1 _)).trans ((below_1 _ _).mono (by simp))) hb2
  have T2 : Hid (OwnA w2 5 1 encB (.slice A1 n1 c1) [172, 2, 1, 1] ∧ OwnA w2 5 1 encB (.slice A2 n2 c2) [2, 7, 8, 2, 1, 172, 2] ∧ Below w.heap.size w w2) := ⟨T1.out.1.ext hb12, ho2, ext_under T1.out.2 (Nat.le_refl _) hb12⟩
  clear hb2 ho2 hf2 hb12
  go_wp2_with fail
  refine (put_nil ⟨#[120]⟩ ([], 2) w2 (by decide) pl3).mono ?_
  rintro e w3 ⟨hb3, A3, n3, c3, rfl, ho3, hf3⟩
  have T3 : Hid (OwnA w3 5 1 encB (.slice A1 n1 c1) [172, 2, 1, 1] ∧ OwnA w3 5 1 encB (.slice A2 n2 c2) [2, 7, 8, 2, 1, 172, 2] ∧ Below w.heap.size w w3) := ⟨T2.out.1.ext hb3, T2.out.2.1.ext hb3, ext_under T2.out.2.2 (Nat.le_refl _) hb3⟩
  clear hb3 ho3 hf3
  go_wp2_with fail
  refine (put_nil ⟨#[110]⟩ ([], 2) w3 (by decide) pl4).mono ?_
  rintro e w4 ⟨hb4, A4, n4, c4, rfl, ho4, hf4⟩
  have T4 : Hid (OwnA w4 5 1 encB (.slice A1 n1 c1) [172, 2, 1, 1] ∧ OwnA w4 5 1 encB (.slice A2 n2 c2) [2, 7, 8, 2, 1, 172, 2] ∧ Below w.heap.size w w4) := ⟨T3.out.1.ext hb4, T3.out.2.1.ext hb4, ext_under T3.out.2.2 (Nat.le_refl _) hb4⟩
  clear hb4 ho4 hf4
  go_wp2_with fail
  refine (put_lit [mkI 1] ⟨#[110]⟩ ([], 2) w4 (by decide) pl5 (by
    intro r hr
    rw [List.mem_singleton] at hr
    subst hr
    exact mkI_rd _ _ (by decide) (by decide)) (by decide)).mono ?_
  rintro e w5 ⟨hb5, A5, n5, c5, rfl, ho5, hf5⟩
  have hb45 : Below w4.heap.size w4 w5 := two_up (Below.refl _ _) hb5
  have T5 : Hid (OwnA w5 5 1 encB (.slice A1 n1 c1) [172, 2, 1, 1] ∧ OwnA w5 5 1 encB (.slice A2 n2 c2) [2, 7, 8, 2, 1, 172, 2] ∧ Below w.heap.size w w5) := ⟨T4.out.1.ext hb45, T4.out.2.1.ext hb45, ext_under T4.out.2.2 (Nat.le_refl _) hb45⟩
  clear hb5 ho5 hf5 hb45
  go_wp2_with fail
  refine (take_lit ⟨#[102]⟩ [2] ([], 0, 40) w5 (by decide) pl6 (by decide)).mono ?_
  rintro e w6 ⟨hb6, A6, n6, c6, rs6, rfl, hr6, hv6⟩
  have hb56 : Below w5.heap.size w5 w6 := two_up (Below.refl _ _) hb6
  have T6 : Hid (OwnA w6 5 1 encB (.slice A1 n1 c1) [172, 2, 1, 1] ∧ OwnA w6 5 1 encB (.slice A2 n2 c2) [2, 7, 8, 2, 1, 172, 2] ∧ Below w.heap.size w w6) := ⟨T5.out.1.ext hb56, T5.out.2.1.ext hb56, ext_under T5.out.2.2 (Nat.le_refl _) hb56⟩
  clear hb6 hr6 hv6 hb56
  go_wp2_with fail
  refine (take_nil ⟨#[102]⟩ ([], 0, 40) w6 (by decide) pl7).mono ?_
  rintro e w7 ⟨hb7, A7, n7, c7, rs7, rfl, hr7, hv7⟩
  have T7 : Hid (OwnA w7 5 1 encB (.slice A1 n1 c1) [172, 2, 1, 1] ∧ OwnA w7 5 1 encB (.slice A2 n2 c2) [2, 7, 8, 2, 1, 172, 2] ∧ Below w.heap.size w w7) := ⟨T6.out.1.ext hb7, T6.out.2.1.ext hb7, ext_under T6.out.2.2 (Nat.le_refl _) hb7⟩
  clear hb7 hr7 hv7
  go_wp2_with fail
  refine (take_lit ⟨#[98]⟩ [2, 7] ([], 0, 40) w7 (by decide) pl8 (by decide)).mono ?_
  rintro e w8 ⟨hb8, A8, n8, c8, rs8, rfl, hr8, hv8⟩
  have hb78 : Below w7.heap.size w7 w8 := two_up (Below.refl _ _) hb8
  have T8 : Hid (OwnA w8 5 1 encB (.slice A1 n1 c1) [172, 2, 1, 1] ∧ OwnA w8 5 1 encB (.slice A2 n2 c2) [2, 7, 8, 2, 1, 172, 2] ∧ Below w.heap.size w w8) := ⟨T7.out.1.ext hb78, T7.out.2.1.ext hb78, ext_under T7.out.2.2 (Nat.le_refl _) hb78⟩
  clear hb8 hr8 hv8 hb78
  go_wp2_with fail
  refine (whole_lit ⟨#[110]⟩ [5, 6] ([], 40) w8 (by decide) pl9 (by decide)).mono ?_
  rintro e w9 ⟨hb9, A9, n9, c9, rs9, rfl, hr9, hv9⟩
  have hb89 : Below w8.heap.size w8 w9 := two_up (Below.refl _ _) hb9
  have T9 : Hid (OwnA w9 5 1 encB (.slice A1 n1 c1) [172, 2, 1, 1] ∧ OwnA w9 5 1 encB (.slice A2 n2 c2) [2, 7, 8, 2, 1, 172, 2] ∧ Below w.heap.size w w9) := ⟨T8.out.1.ext hb89, T8.out.2.1.ext hb89, ext_under T8.out.2.2 (Nat.le_refl _) hb89⟩
  clear hb9 hr9 hv9 hb89
  go_wp2_with fail
  refine (same_lit [172, 2, 1, 1] A1 n1 c1 w9 T9.out.1 (by decide)).mono ?_
  rintro e wA ⟨rfl, q1, hq1⟩
  have hb9A : Below w9.heap.size w9 wA := by rw [hq1]; exact bdrewN (below_1 w9 _) q1
  have TA : Hid (OwnA wA 5 1 encB (.slice A2 n2 c2) [2, 7, 8, 2, 1, 172, 2] ∧ Below w.heap.size w wA) := ⟨T9.out.2.1.ext hb9A, ext_under T9.out.2.2 (Nat.le_refl _) hb9A⟩
  clear hb9A hq1
  go_wp2_with fail
  refine (same_lit [2, 7, 8, 2, 1, 172, 2] A2 n2 c2 wA TA.out.1 (by decide)).mono ?_
  rintro e wB ⟨rfl, q2, hq2⟩
  have TB : Hid (Below w.heap.size w wB) := by
    have h : Below wA.heap.size wA wB := by rw [hq2]; exact bdrewN (below_1 wA _) q2
    exact ext_under TA.out.2 (Nat.le_refl _) h
  clear hq2
  go_wp2
  go_ret
  exact ⟨rfl, TB.out⟩
end Go.Proofs.Ytoneechcclndaaa.Wire
