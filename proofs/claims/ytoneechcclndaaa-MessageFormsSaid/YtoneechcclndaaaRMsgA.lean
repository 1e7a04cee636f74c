/- message: the document's Schema, number, May, Same, Copy. -/
import Derived.Test.YtoneechcclndaaaMsgS
import Derived.Outline
import Derived.BigQuiet
import Derived.Deep.QuietTactic
import Derived.Deep.RegionWith
import Derived.Deep.RegionHeld3
import Derived.Deep.DrawnRows
import Derived.Deep.LoopGhost
import Derived.Deep.DeepCutAuto
import Derived.Laws.EntriesVeiled
namespace Go.Proofs.Ytoneechcclndaaa.Msg
open Go.RowKit Go.ChangeShapes Go.WideShapes Go.ChangeAt
set_option linter.unusedVariables false
set_option linter.unusedSimpArgs false
attribute [local go_sem ↓] Go.wp_at_zero Go.wp_at_succ
open Go.Shelf Go.Proofs.Ytoneechcclndaaa.Word Go.Proofs.Ytoneechcclndaaa.Wire

def rschS (n : Nat) : List UInt8 := match kkOf n with
  | none => []
  | some k => schS k
theorem rschema_any24 (n : Nat) (w : World) (hn : n ≤ 255) : Calls Try.prog 61 #[.int .u8 (n : Int)] w fun e w' => e = .returned (.string ⟨(rschS n).toArray⟩) ∧ w = w' := by
  cases hk : kkOf n with
  | some k =>
    have HS : Hid (rschS n = schS k) := by unfold Hid rschS; rw [hk]
    rw [HS.out]
    clear HS
    rcases kk_cases hk with ⟨rfl, rfl⟩ | ⟨rfl, rfl⟩ | ⟨rfl, rfl⟩ | ⟨rfl, rfl⟩ | ⟨rfl, rfl⟩ <;> (
      clear hk
      go_enter Try.func61, Try.ntmps61
      go_wp2
      go_ret
      exact ⟨by simp [schS], rfl⟩)
  | none =>
    have HS : Hid (rschS n = []) := by unfold Hid rschS; rw [hk]
    have h := kk_none hk
    rw [HS.out]
    have d1 : ((n : Int) == 1) = false := by simp; omega
    have d2 : ((n : Int) == 2) = false := by simp; omega
    have d3 : ((n : Int) == 3) = false := by simp; omega
    have d4 : ((n : Int) == 4) = false := by simp; omega
    have d5 : ((n : Int) == 5) = false := by simp; omega
    clear h hk
    go_enter Try.func61, Try.ntmps61
    go_wp2
    go_ret
    exact ⟨rfl, rfl⟩
def numR (v : WV) : Int := if 1099511627776 < v.n then -1 else (v.n : Int)
theorem number_any (r : Wr) (w : World) : Calls Try.prog 63 #[r.agg] w fun e w' => e = .returned (.int .i64 (numR r.v)) ∧ Below w.heap.size w w' := by
  unfold Wr.agg
  by_cases h : 1099511627776 < r.v.n
  · have d1 : decide ((1099511627776 : Int) < (r.v.n : Int)) = true := decide_eq_true (by omega)
    have HN : Hid (numR r.v = -1) := by unfold Hid numR; rw [if_pos h]
    go_enter Try.func63, Try.ntmps63
    go_wp2
    go_ret
    exact ⟨ret_int HN.out.symm, (by repeat (first | exact Below.refl _ _ | assumption | refine Below.drew ?_ | refine bdrewN ?_ _ | refine Below.alloc ?_ (by simp; try omega) _ | refine Below.setCell ?_ (by simp; try omega) _))⟩
  · have d1 : decide ((1099511627776 : Int) < (r.v.n : Int)) = false := decide_eq_false (by omega)
    have d2 : IntKind.i64.wrap (r.v.n : Int) = (r.v.n : Int) := IntWalk.i64_in _ (by omega)
    have HN : Hid (numR r.v = (r.v.n : Int)) := by unfold Hid numR; rw [if_neg h]
    go_enter Try.func63, Try.ntmps63
    go_wp2
    go_ret
    exact ⟨ret_int HN.out.symm, (by repeat (first | exact Below.refl _ _ | assumption | refine Below.drew ?_ | refine bdrewN ?_ _ | refine Below.alloc ?_ (by simp; try omega) _ | refine Below.setCell ?_ (by simp; try omega) _))⟩

/-- how far messages' numbers are within bounds -/
def cen (m : Ms) : Bool := !(decide (m.client < 0) || decide (5 < m.client) || decide (m.epoch < 1) || decide (1099511627776 < m.epoch))
theorem cen_eq (m : Ms) : (inB true m.client 0 5 && inB true m.epoch 1 1099511627776) = cen m := by
  unfold cen inB
  rw [Bool.eq_iff_iff]; simp; omega
theorem may_1 (m : Ms) (h : m.kind = 1) : mayB m = (cen m && ((((m.bs.length : Int) == 0) && !m.last) && (m.seq == 0) && decide (0 ≤ m.width) && decide (m.width ≤ 2147483648))) := by
  rw [← cen_eq]; unfold mayB; rw [h]
  simp only [kkOf, if_true, mayK, inB]
  rw [Bool.eq_iff_iff]; simp; constructor <;> (intro h; simp_all)
theorem may_25 (m : Ms) (h : m.kind = 2 ∨ m.kind = 5) : mayB m = (cen m && ((((m.bs.length : Int) == 0) && !m.last) && (m.seq == 0) && (m.width == 0))) := by
  rw [← cen_eq]; unfold mayB
  rcases h with h | h <;> (
    rw [h]
    simp [kkOf, mayK, inB]
    rw [Bool.eq_iff_iff]; simp; constructor <;> (intro h; simp_all))
theorem may_3 (m : Ms) (h : m.kind = 3) : mayB m = (cen m && ((((m.bs.length : Int) == 0) && !m.last) && (m.width == 0) && decide (0 ≤ m.seq) && decide (m.seq ≤ 1099511627776))) := by
  rw [← cen_eq]; unfold mayB; rw [h]
  simp [kkOf, mayK, inB]
  rw [Bool.eq_iff_iff]; simp; constructor <;> (intro h; simp_all)
theorem may_4 (m : Ms) (h : m.kind = 4) : mayB m = (cen m && ((m.width == 0) && decide (1 ≤ m.seq) && decide (m.seq ≤ 1099511627776) && decide (1 ≤ (m.bs.length : Int)) && decide ((m.bs.length : Int) ≤ 48))) := by
  rw [← cen_eq]; unfold mayB; rw [h]
  simp [kkOf, mayK, inB]
  rw [Bool.eq_iff_iff]; simp; constructor <;> (intro h; simp_all; try omega)
end Go.Proofs.Ytoneechcclndaaa.Msg
