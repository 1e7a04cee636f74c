/- law 20: what the laws share. -/
import Derived.Test.YtoneechcclndaaaFrB
import Derived.Test.YtoneechcclndaaaFrT
import Derived.Test.YtoneechcclndaaaLift
import Derived.Test.YtoneechcclndaaaOpen
import Derived.Carry
import Derived.Outline
import Derived.BigQuiet
import Derived.Deep.QuietTactic
import Derived.Deep.RegionWith
import Derived.Deep.RegionHeld3
import Derived.Deep.DrawnRows
import Derived.Deep.LoopGhost
import Derived.Deep.DeepCutAuto
import Derived.Laws.EntriesVeiled
namespace Go.Proofs.Ytoneechcclndaaa.FForm
open Go.RowKit Go.ChangeShapes Go.WideShapes Go.ChangeAt
set_option linter.unusedVariables false
set_option linter.unusedSimpArgs false
attribute [local go_sem ↓] Go.wp_at_zero Go.wp_at_succ
open Go.Shelf FragA FragB MayA Tree FCheck FTr

/-- the fragments that came in, at a later world -/
structure TW (w W : World) (A : Option Addr) (l : List Fr) : Prop where
  sl : FrSl W W.heap.size A l
  be : Below w.heap.size w W
theorem TW.ext {w W W' : World} {A : Option Addr} {l : List Fr} (h : TW w W A l) (hb : Below W.heap.size W W') : TW w W' A l := ⟨h.sl.ext hb, ext_under h.be (Nat.le_refl _) hb⟩
theorem TW.drewN {w W : World} {A : Option Addr} {l : List Fr} (h : TW w W A l) (k : Nat) : TW w (W.drewN k) A l := h.ext (bdrewN (Below.refl _ _) k)
theorem wrapmod (z : Int) (n : Nat) (hn : 1 ≤ n) : ∃ v : Nat, (IntKind.u64.wrap z).tmod (n : Int) = (v : Int) ∧ v < n := by
  have h : 0 ≤ IntKind.u64.wrap z := by simp [IntKind.wrap, IntKind.bits, IntKind.signed]; omega
  have h1 := Int.tmod_nonneg (n : Int) h
  have h2 := Int.tmod_lt_of_pos (IntKind.u64.wrap z) (show (0 : Int) < (n : Int) by omega)
  exact ⟨((IntKind.u64.wrap z).tmod (n : Int)).toNat, by omega, by omega⟩
theorem great_v (l : List Fr) (A : Option Addr) (n cap : Nat) (w : World) (b : Bool) (hl : FrSl w w.heap.size A l) (hn : Hid (n = l.length)) (hm : n ≤ maxLen) (hw : FrsWf l) (hv : greatFrom 0 0 l = b) :
    Calls Try.prog 40 #[.slice A n cap] w fun e w' => e = .returned (.bool b) ∧ w = w' := by
  have h := great_any l A cap w hl (by rw [← hn.out]; exact hm) hw
  rw [hv, ← hn.out] at h
  exact h
theorem find_v (l : List Fr) (A : Option Addr) (n cap : Nat) (nd pt : Int) (w : World) (v : Int) (hl : FrSl w w.heap.size A l) (hn : Hid (n = l.length)) (hm : n ≤ maxLen) (hv : findFrom nd pt l 0 = v) :
    Calls Try.prog 45 #[.slice A n cap, .int .i64 nd, .int .i64 pt] w fun e w' => e = .returned (.int .i64 v) ∧ Below w.heap.size w w' := by
  have h := find_any l A cap nd pt w hl (by rw [← hn.out]; exact hm)
  rw [hv, ← hn.out] at h
  exact h
theorem undrew1 {B : Nat} {w w' : World} (h : Below B w.drew w') : Below B w w' := ⟨h.os, h.tape, h.output, h.size, h.block⟩
end Go.Proofs.Ytoneechcclndaaa.FForm
