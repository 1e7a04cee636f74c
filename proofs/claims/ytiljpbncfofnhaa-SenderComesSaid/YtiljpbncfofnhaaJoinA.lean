/- chunk: joiners that nobody made, and made ones. -/
import Derived.Test.YtiljpbncfofnhaaRows
import Derived.Test.YtiljpbncfofnhaaHeap
import Derived.Outline
import Derived.BigQuiet
import Derived.Deep.QuietTactic
import Derived.Deep.RegionWith
import Derived.Deep.RegionHeld3
import Derived.Deep.DrawnRows
import Derived.Deep.LoopGhost
import Derived.Deep.DeepCutAuto
import Derived.Laws.EntriesVeiled
namespace Go.Proofs.Ytiljpbncfofnhaa.JoinA
open Go.RowKit Go.ChangeShapes Go.WideShapes Go.ChangeAt
set_option linter.unusedVariables false
set_option linter.unusedSimpArgs false
attribute [local go_sem ↓] Go.wp_at_zero Go.wp_at_succ

theorem none_nil (w : World) : Calls Try.prog 73 #[.pointer none] w fun e w' => e = .returned (.bool true) ∧ w = w' := by
  go_enter Try.func73, Try.ntmps73
  go_wp2
  go_ret
  exact ⟨rfl, rfl⟩

theorem none_unmade (b o : Nat) (w : World) (h : w.cell? ⟨b, o, none⟩ = some (.bool false)) : Calls Try.prog 73 #[.pointer (some ⟨b, o, none⟩)] w fun e w' => e = .returned (.bool true) ∧ w = w' := by
  go_enter Try.func73, Try.ntmps73
  go_wp2
  go_ret
  exact ⟨rfl, rfl⟩

theorem none_made (b o : Nat) (w : World) (h : w.cell? ⟨b, o, none⟩ = some (.bool true)) : Calls Try.prog 73 #[.pointer (some ⟨b, o, none⟩)] w fun e w' => e = .returned (.bool false) ∧ w = w' := by
  go_enter Try.func73, Try.ntmps73
  go_wp2
  go_ret
  exact ⟨rfl, rfl⟩

def Nobody (w : World) (p : Option Addr) : Prop := p = none ∨ ∃ b o, p = some ⟨b, o, none⟩ ∧ w.cell? ⟨b, o, none⟩ = some (.bool false)

theorem none_any (p : Option Addr) (w : World) (h : Nobody w p) : Calls Try.prog 73 #[.pointer p] w fun e w' => e = .returned (.bool true) ∧ w = w' := by
  rcases h with rfl | ⟨b, o, rfl, h⟩
  · exact none_nil w
  · exact none_unmade b o w h

theorem take_nobody (p : Option Addr) (s l b : Value) (w : World) (h : Nobody w p) : Calls Try.prog 36 #[.pointer p, s, l, b] w fun e w' => e = .returned (.tuple #[.slice none 0 0, .bool false, .int .i64 1]) ∧ w = w' := by
  go_enter Try.func36, Try.ntmps36
  go_wp2_with (go_at_call 73; refine (none_any _ _ h).mono ?_; rintro e w' ⟨rfl, rfl⟩)
  go_ret3
  exact ⟨rfl, rfl⟩

theorem taken_nobody (p : Option Addr) (w : World) (h : Nobody w p) : Calls Try.prog 37 #[.pointer p] w fun e w' => e = .returned (.int .i64 0) ∧ w = w' := by
  go_enter Try.func37, Try.ntmps37
  go_wp2_with (go_at_call 73; refine (none_any _ _ h).mono ?_; rintro e w' ⟨rfl, rfl⟩)
  go_ret
  exact ⟨rfl, rfl⟩

end Go.Proofs.Ytiljpbncfofnhaa.JoinA
