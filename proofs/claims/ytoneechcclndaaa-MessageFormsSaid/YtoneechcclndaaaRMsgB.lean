/- message: the document's May. -/
import Derived.Test.YtoneechcclndaaaRMsgA
import Derived.Outline
import Derived.BigQuiet
import Derived.Deep.QuietTactic
import Derived.Deep.RegionWith
import Derived.Deep.RegionHeld3
import Derived.Deep.DrawnRows
import Derived.Deep.LoopGhost
import Derived.Deep.DeepCutAuto
import Derived.Laws.EntriesVeiled
namespace Go.Proofs.Ytoneechcclndaaa.Msg
open Go.RowKit Go.ChangeShapes Go.WideShapes Go.ChangeAt
set_option linter.unusedVariables false
set_option linter.unusedSimpArgs false
attribute [local go_sem ↓] Go.wp_at_zero Go.wp_at_succ
open Go.Shelf Go.Proofs.Ytoneechcclndaaa.Word Go.Proofs.Ytoneechcclndaaa.Wire

theorem may_cen {m : Ms} (h : cen m = false) : mayB m = false := by
  have e := cen_eq m
  rw [h] at e
  unfold mayB
  cases kkOf m.kind with
  | none => rfl
  | some k =>
    simp only [mayK]
    rw [← Bool.and_assoc, e]; rfl
theorem may_nokind {m : Ms} (h : kkOf m.kind = none) : mayB m = false := by unfold mayB; rw [h]
set_option maxHeartbeats 4000000 in
theorem rmay24_any (m : Mr) (w : World) (hk : m.v.kind ≤ 255) (hn : m.n = m.v.bs.length) : Calls Try.prog 34 #[m.agg] w fun e w' => e = .returned (.bool (mayB m.v)) ∧ Below w.heap.size w w' := by
  obtain ⟨⟨kd, cl, ep, wd, sq, la, bs⟩, A, n, c⟩ := m
  simp only at hk hn
  unfold Mr.agg
  simp only
  cases hc : cen ⟨kd, cl, ep, wd, sq, la, bs⟩ with
  | false =>
    have HV := Lib.hid (may_cen hc)
    generalize mayB ⟨kd, cl, ep, wd, sq, la, bs⟩ = res at *
    by_cases a1 : cl < 0
    · have d1 : decide (cl < 0) = true := decide_eq_true a1
      clear hc hn
      go_enter Try.func34, Try.ntmps34; go_wp2; go_ret; exact ⟨ret_bool HV.out.symm, (by repeat (first | exact Below.refl _ _ | assumption | refine Below.drew ?_ | refine bdrewN ?_ _ | refine Below.alloc ?_ (by simp; try omega) _ | refine Below.setCell ?_ (by simp; try omega) _))⟩
    have d1 : decide (cl < 0) = false := decide_eq_false a1
    by_cases a2 : 5 < cl
    · have d2 : decide (5 < cl) = true := decide_eq_true a2
      clear hc hn
      go_enter Try.func34, Try.ntmps34; go_wp2; go_ret; exact ⟨ret_bool HV.out.symm, (by repeat (first | exact Below.refl _ _ | assumption | refine Below.drew ?_ | refine bdrewN ?_ _ | refine Below.alloc ?_ (by simp; try omega) _ | refine Below.setCell ?_ (by simp; try omega) _))⟩
    have d2 : decide (5 < cl) = false := decide_eq_false a2
    by_cases a3 : ep < 1
    · have d3 : decide (ep < 1) = true := decide_eq_true a3
      clear hc hn
      go_enter Try.func34, Try.ntmps34; go_wp2; go_ret; exact ⟨ret_bool HV.out.symm, (by repeat (first | exact Below.refl _ _ | assumption | refine Below.drew ?_ | refine bdrewN ?_ _ | refine Below.alloc ?_ (by simp; try omega) _ | refine Below.setCell ?_ (by simp; try omega) _))⟩
    have d3 : decide (ep < 1) = false := decide_eq_false a3
    by_cases a4 : 1099511627776 < ep
    · have d4 : decide (1099511627776 < ep) = true := decide_eq_true a4
      clear hc hn
      go_enter Try.func34, Try.ntmps34; go_wp2; go_ret; exact ⟨ret_bool HV.out.symm, (by repeat (first | exact Below.refl _ _ | assumption | refine Below.drew ?_ | refine bdrewN ?_ _ | refine Below.alloc ?_ (by simp; try omega) _ | refine Below.setCell ?_ (by simp; try omega) _))⟩
    · exfalso
      unfold cen at hc
      simp at hc
      omega
  | true =>
    have hh := hc
    unfold cen at hh
    simp only [Bool.not_eq_true', Bool.or_eq_false_iff, decide_eq_false_iff_not] at hh
    have d1 : decide (cl < 0) = false := decide_eq_false hh.1.1.1
    have d2 : decide (5 < cl) = false := decide_eq_false hh.1.1.2
    have d3 : decide (ep < 1) = false := decide_eq_false hh.1.2
    have d4 : decide (1099511627776 < ep) = false := decide_eq_false hh.2
    clear hh
    obtain ⟨q0, p0⟩ : ∃ q, q = ((n : Int) == 0) := ⟨_, rfl⟩
    obtain ⟨q1, p1⟩ : ∃ q, q = (sq == 0) := ⟨_, rfl⟩
    obtain ⟨q2, p2⟩ : ∃ q, q = decide (0 ≤ wd) := ⟨_, rfl⟩
    obtain ⟨q3, p3⟩ : ∃ q, q = decide (wd ≤ 2147483648) := ⟨_, rfl⟩
    obtain ⟨q4, p4⟩ : ∃ q, q = (wd == 0) := ⟨_, rfl⟩
    obtain ⟨q5, p5⟩ : ∃ q, q = decide (0 ≤ sq) := ⟨_, rfl⟩
    obtain ⟨q6, p6⟩ : ∃ q, q = decide (sq ≤ 1099511627776) := ⟨_, rfl⟩
    obtain ⟨q7, p7⟩ : ∃ q, q = decide (1 ≤ sq) := ⟨_, rfl⟩
    obtain ⟨q8, p8⟩ : ∃ q, q = decide ((1 : Int) ≤ (n : Int)) := ⟨_, rfl⟩
    obtain ⟨q9, p9⟩ : ∃ q, q = decide ((n : Int) ≤ 48) := ⟨_, rfl⟩
    cases hkk : kkOf kd with
    | none =>
      have HV := Lib.hid (may_nokind (m := ⟨kd, cl, ep, wd, sq, la, bs⟩) hkk)
      have h := kk_none hkk
      generalize mayB ⟨kd, cl, ep, wd, sq, la, bs⟩ = res at *
      have f1 : ((kd : Int) == 1) = false := by simp; omega
      have f2 : ((kd : Int) == 2) = false := by simp; omega
      have f3 : ((kd : Int) == 3) = false := by simp; omega
      have f4 : ((kd : Int) == 4) = false := by simp; omega
      have f5 : ((kd : Int) == 5) = false := by simp; omega
      clear hc hn h hkk p1 p2 p3 p4 p5 p6 p7 p8 p9
      replace p0 := p0.symm
      cases q0 <;> cases la <;> (go_enter Try.func34, Try.ntmps34; go_wp2; go_ret; exact ⟨ret_bool HV.out.symm, (by repeat (first | exact Below.refl _ _ | assumption | refine Below.drew ?_ | refine bdrewN ?_ _ | refine Below.alloc ?_ (by simp; try omega) _ | refine Below.setCell ?_ (by simp; try omega) _))⟩)
    | some k =>
      rcases kk_cases hkk with ⟨rfl, rfl⟩ | ⟨rfl, rfl⟩ | ⟨rfl, rfl⟩ | ⟨rfl, rfl⟩ | ⟨rfl, rfl⟩ <;> clear hkk
      · have HV : Hid (mayB ⟨1, cl, ep, wd, sq, la, bs⟩ = ((((q0 && !la) && q1) && q2) && q3)) := by
          rw [Hid, may_1 _ rfl, hc]
          simp only [Bool.true_and]
          rw [p0, p1, p2, p3, hn]
        generalize mayB ⟨1, cl, ep, wd, sq, la, bs⟩ = res at *
        clear hc hn
        replace p0 := p0.symm; replace p1 := p1.symm; replace p2 := p2.symm; replace p3 := p3.symm; replace p4 := p4.symm; replace p5 := p5.symm; replace p6 := p6.symm; replace p7 := p7.symm; replace p8 := p8.symm; replace p9 := p9.symm
        go_enter Try.func34, Try.ntmps34
        go_wp2
        all_goals (
          go_ret
          refine ⟨ret_bool ?_, (by repeat (first | exact Below.refl _ _ | assumption | refine Below.drew ?_ | refine bdrewN ?_ _ | refine Below.alloc ?_ (by simp; try omega) _ | refine Below.setCell ?_ (by simp; try omega) _))⟩
          rw [HV.out]
          clear HV p0 p1 p2 p3 p4 p5 p6 p7 p8 p9 d1 d2 d3 d4
          first | (simp [*]; done) | simp_all)
      · have HV : Hid (mayB ⟨2, cl, ep, wd, sq, la, bs⟩ = (((q0 && !la) && q1) && q4)) := by
          rw [Hid, may_25 _ (.inl rfl), hc]
          simp only [Bool.true_and]
          rw [p0, p1, p4, hn]
        generalize mayB ⟨2, cl, ep, wd, sq, la, bs⟩ = res at *
        clear hc hn
        replace p0 := p0.symm; replace p1 := p1.symm; replace p2 := p2.symm; replace p3 := p3.symm; replace p4 := p4.symm; replace p5 := p5.symm; replace p6 := p6.symm; replace p7 := p7.symm; replace p8 := p8.symm; replace p9 := p9.symm
        go_enter Try.func34, Try.ntmps34
        go_wp2
        all_goals (
          go_ret
          refine ⟨ret_bool ?_, (by repeat (first | exact Below.refl _ _ | assumption | refine Below.drew ?_ | refine bdrewN ?_ _ | refine Below.alloc ?_ (by simp; try omega) _ | refine Below.setCell ?_ (by simp; try omega) _))⟩
          rw [HV.out]
          clear HV p0 p1 p2 p3 p4 p5 p6 p7 p8 p9 d1 d2 d3 d4
          first | (simp [*]; done) | simp_all)
      · have HV : Hid (mayB ⟨3, cl, ep, wd, sq, la, bs⟩ = ((((q0 && !la) && q4) && q5) && q6)) := by
          rw [Hid, may_3 _ rfl, hc]
          simp only [Bool.true_and]
          rw [p0, p4, p5, p6, hn]
        generalize mayB ⟨3, cl, ep, wd, sq, la, bs⟩ = res at *
        clear hc hn
        replace p0 := p0.symm; replace p1 := p1.symm; replace p2 := p2.symm; replace p3 := p3.symm; replace p4 := p4.symm; replace p5 := p5.symm; replace p6 := p6.symm; replace p7 := p7.symm; replace p8 := p8.symm; replace p9 := p9.symm
        go_enter Try.func34, Try.ntmps34
        go_wp2
        all_goals (
          go_ret
          refine ⟨ret_bool ?_, (by repeat (first | exact Below.refl _ _ | assumption | refine Below.drew ?_ | refine bdrewN ?_ _ | refine Below.alloc ?_ (by simp; try omega) _ | refine Below.setCell ?_ (by simp; try omega) _))⟩
          rw [HV.out]
          clear HV p0 p1 p2 p3 p4 p5 p6 p7 p8 p9 d1 d2 d3 d4
          first | (simp [*]; done) | simp_all)
      · have HV : Hid (mayB ⟨4, cl, ep, wd, sq, la, bs⟩ = ((((q4 && q7) && q6) && q8) && q9)) := by
          rw [Hid, may_4 _ rfl, hc]
          simp only [Bool.true_and]
          rw [p4, p7, p6, p8, p9, hn]
        generalize mayB ⟨4, cl, ep, wd, sq, la, bs⟩ = res at *
        clear hc hn
        replace p0 := p0.symm; replace p1 := p1.symm; replace p2 := p2.symm; replace p3 := p3.symm; replace p4 := p4.symm; replace p5 := p5.symm; replace p6 := p6.symm; replace p7 := p7.symm; replace p8 := p8.symm; replace p9 := p9.symm
        go_enter Try.func34, Try.ntmps34
        go_wp2
        all_goals (
          go_ret
          refine ⟨ret_bool ?_, (by repeat (first | exact Below.refl _ _ | assumption | refine Below.drew ?_ | refine bdrewN ?_ _ | refine Below.alloc ?_ (by simp; try omega) _ | refine Below.setCell ?_ (by simp; try omega) _))⟩
          rw [HV.out]
          clear HV p0 p1 p2 p3 p4 p5 p6 p7 p8 p9 d1 d2 d3 d4
          first | (simp [*]; done) | simp_all)
      · have HV : Hid (mayB ⟨5, cl, ep, wd, sq, la, bs⟩ = (((q0 && !la) && q1) && q4)) := by
          rw [Hid, may_25 _ (.inr rfl), hc]
          simp only [Bool.true_and]
          rw [p0, p1, p4, hn]
        generalize mayB ⟨5, cl, ep, wd, sq, la, bs⟩ = res at *
        clear hc hn
        replace p0 := p0.symm; replace p1 := p1.symm; replace p2 := p2.symm; replace p3 := p3.symm; replace p4 := p4.symm; replace p5 := p5.symm; replace p6 := p6.symm; replace p7 := p7.symm; replace p8 := p8.symm; replace p9 := p9.symm
        go_enter Try.func34, Try.ntmps34
        go_wp2
        all_goals (
          go_ret
          refine ⟨ret_bool ?_, (by repeat (first | exact Below.refl _ _ | assumption | refine Below.drew ?_ | refine bdrewN ?_ _ | refine Below.alloc ?_ (by simp; try omega) _ | refine Below.setCell ?_ (by simp; try omega) _))⟩
          rw [HV.out]
          clear HV p0 p1 p2 p3 p4 p5 p6 p7 p8 p9 d1 d2 d3 d4
          first | (simp [*]; done) | simp_all)
end Go.Proofs.Ytoneechcclndaaa.Msg
