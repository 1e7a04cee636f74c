/- words.Get of the program. -/
import Derived.Test.YtiommdidkhohgaaWordH
import Derived.Deep.QuietTactic
import Derived.Outline
import Derived.BigQuiet
import Derived.Deep.QuietTactic
import Derived.Deep.RegionWith
import Derived.Deep.RegionHeld3
import Derived.Deep.DrawnRows
import Derived.Deep.LoopGhost
import Derived.Deep.DeepCutAuto
import Derived.Laws.EntriesVeiled
namespace Go.Proofs.Ytiommdidkhohgaa.Word
open Go.RowKit Go.ChangeShapes Go.WideShapes Go.ChangeAt
set_option linter.unusedVariables false
set_option linter.unusedSimpArgs false
attribute [local go_sem ↓] Go.wp_at_zero Go.wp_at_succ
attribute [local go_sem] Oper.semAt_some
open Go.Shelf

/-- what a word at a place tells -/
def getAt (l : List UInt8) (at' : Int) : Option (Nat × Nat) := if at' < 0 ∨ (l.length : Int) ≤ at' then none else getW (l.drop at'.toNat)
def getV : Option (Nat × Nat) → Value
  | none => .tuple #[.int .u64 0, .int .i64 0, .bool false]
  | some (x, k) => .tuple #[.int .u64 (x : Int), .int .i64 (k : Int), .bool true]

theorem get_out (l : List UInt8) (A : Option Addr) (n cap : Nat) (at' : Int) (w : World) (hn : Hid (n = l.length)) (h : at' < 0 ∨ (n : Int) ≤ at') :
    Calls Try.prog 82 #[.slice A n cap, .int .i64 at'] w fun e w' => e = .returned (getV (getAt l at')) ∧ Below w.heap.size w w' := by
  have hg : Hid (getAt l at' = none) := by unfold Hid getAt; rw [if_pos (by rw [← hn.out]; exact h)]
  by_cases h1 : at' < 0
  · go_enter Try.func82, Try.ntmps82
    go_wp2
    refine bodyPost_ret (v := getV none) ?_ rfl ⟨by rw [hg.out], (by repeat (first | exact Below.refl _ _ | assumption | refine Below.drew ?_ | refine bdrewN ?_ _ | refine Below.alloc ?_ (by simp; try omega) _ | refine Below.setCell ?_ (by simp; try omega) _))⟩
    simp [results, Try.results82, go_sem, getV]
  · have h2 : (n : Int) ≤ at' := by omega
    go_enter Try.func82, Try.ntmps82
    go_wp2
    refine bodyPost_ret (v := getV none) ?_ rfl ⟨by rw [hg.out], (by repeat (first | exact Below.refl _ _ | assumption | refine Below.drew ?_ | refine bdrewN ?_ _ | refine Below.alloc ?_ (by simp; try omega) _ | refine Below.setCell ?_ (by simp; try omega) _))⟩
    simp [results, Try.results82, go_sem, getV]
end Go.Proofs.Ytiommdidkhohgaa.Word
