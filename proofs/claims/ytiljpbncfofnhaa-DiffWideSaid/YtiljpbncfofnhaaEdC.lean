/- edit: what may be: bare, May of the program. -/
import Derived.Test.YtiljpbncfofnhaaEdB
import Derived.Test.YtiljpbncfofnhaaMay
import Derived.Test.YtiljpbncfofnhaaUni
import Derived.Outline
import Derived.BigQuiet
import Derived.Deep.QuietTactic
import Derived.Deep.RegionWith
import Derived.Deep.RegionHeld3
import Derived.Deep.DrawnRows
import Derived.Deep.LoopGhost
import Derived.Deep.DeepCutAuto
import Derived.Laws.EntriesVeiled
import Derived.BigQuiet
namespace Go.Proofs.Ytiljpbncfofnhaa.EdC
open Go.RowKit Go.ChangeShapes Go.WideShapes Go.ChangeAt
set_option linter.unusedVariables false
set_option linter.unusedSimpArgs false
attribute [local go_sem ↓] Go.wp_at_zero Go.wp_at_succ
open MayA FragA
attribute [local go_sem ↓] edNeq edEq'
attribute [local go_sem] edGuard

def Fr.z : Fr := ⟨0, 0, 0, 0, 0, 0, 0, ByteArray.empty⟩
/-- an edit with nothing but its kind and what counts of it -/
def bareE (e : Ed) : Ed :=
  if e.kind = 0 ∨ e.kind = 1 then ⟨e.kind, e.n, 0, 0, Fr.z⟩
  else if e.kind = 2 then ⟨e.kind, 0, 0, 0, e.f⟩
  else if e.kind = 3 then ⟨e.kind, 0, e.node, e.part, Fr.z⟩
  else if e.kind = 4 then ⟨e.kind, 0, 0, 0, ⟨0, 0, e.f.depth, e.f.x, e.f.y, e.f.w, e.f.h, ByteArray.empty⟩⟩
  else ⟨e.kind, 0, 0, 0, ⟨0, 0, 0, 0, 0, 0, 0, e.f.text⟩⟩
def keyF (e : Ed) : Fr := ⟨e.node, e.part, 0, 0, 0, 0, 0, ⟨#[]⟩⟩
def countsE (e : Ed) : Bool := e.kind == 0 || e.kind == 1
/-- whether an edit may be -/
def mayE (e : Ed) : Bool := decide (e.kind ≤ 5) && (Ed.beq e (bareE e) && (mayB e.f && (mayB (keyF e) && (!countsE e || (decide (1 ≤ e.n) && decide (e.n ≤ 2048))))))

theorem bare_0 (e : Ed) (w : World) (k : e.kind = 0) : Calls Try.prog 74 #[e.agg] w fun r w' => r = .returned (bareE e).agg ∧ Below w.heap.size w w' := by
  unfold Ed.agg
  have h : Hid (bareE e = ⟨0, e.n, 0, 0, Fr.z⟩) := by rw [Hid, bareE, if_pos (.inl k), k]
  rw [h.out]
  go_enter Try.func74, Try.ntmps74
  go_wp2
  exact bodyPost_ret (v := .agg #[.int .u8 0, .int .i64 e.n, .int .i64 0, .int .i64 0, .int .i64 0, .int .i64 0, .int .i64 0, .int .i64 0, .int .i64 0, .int .i64 0, .int .i64 0, .string ⟨#[]⟩]) (by simp [results, Try.results74, go_sem]) rfl ⟨rfl, (by repeat (first | exact Below.refl _ _ | assumption | refine Below.drew ?_ | refine bdrewN ?_ _ | refine Below.alloc ?_ (by simp; try omega) _ | refine Below.setCell ?_ (by simp; try omega) _))⟩
theorem bare_1 (e : Ed) (w : World) (k : e.kind = 1) : Calls Try.prog 74 #[e.agg] w fun r w' => r = .returned (bareE e).agg ∧ Below w.heap.size w w' := by
  unfold Ed.agg
  have h : Hid (bareE e = ⟨1, e.n, 0, 0, Fr.z⟩) := by rw [Hid, bareE, if_pos (.inr k), k]
  rw [h.out]
  go_enter Try.func74, Try.ntmps74
  go_wp2
  exact bodyPost_ret (v := .agg #[.int .u8 1, .int .i64 e.n, .int .i64 0, .int .i64 0, .int .i64 0, .int .i64 0, .int .i64 0, .int .i64 0, .int .i64 0, .int .i64 0, .int .i64 0, .string ⟨#[]⟩]) (by simp [results, Try.results74, go_sem]) rfl ⟨rfl, (by repeat (first | exact Below.refl _ _ | assumption | refine Below.drew ?_ | refine bdrewN ?_ _ | refine Below.alloc ?_ (by simp; try omega) _ | refine Below.setCell ?_ (by simp; try omega) _))⟩
theorem bare_2 (e : Ed) (w : World) (k : e.kind = 2) : Calls Try.prog 74 #[e.agg] w fun r w' => r = .returned (bareE e).agg ∧ Below w.heap.size w w' := by
  unfold Ed.agg
  have h : Hid (bareE e = ⟨2, 0, 0, 0, e.f⟩) := by rw [Hid, bareE, if_neg (by omega), if_pos k, k]
  rw [h.out]
  go_enter Try.func74, Try.ntmps74
  go_wp2
  exact bodyPost_ret (v := .agg #[.int .u8 2, .int .i64 0, .int .i64 0, .int .i64 0, .int .i64 e.f.node, .int .i64 e.f.part, .int .i64 e.f.depth, .int .i64 e.f.x, .int .i64 e.f.y, .int .i64 e.f.w, .int .i64 e.f.h, .string e.f.text]) (by simp [results, Try.results74, go_sem]) rfl ⟨rfl, (by repeat (first | exact Below.refl _ _ | assumption | refine Below.drew ?_ | refine bdrewN ?_ _ | refine Below.alloc ?_ (by simp; try omega) _ | refine Below.setCell ?_ (by simp; try omega) _))⟩
theorem bare_3 (e : Ed) (w : World) (k : e.kind = 3) : Calls Try.prog 74 #[e.agg] w fun r w' => r = .returned (bareE e).agg ∧ Below w.heap.size w w' := by
  unfold Ed.agg
  have h : Hid (bareE e = ⟨3, 0, e.node, e.part, Fr.z⟩) := by rw [Hid, bareE, if_neg (by omega), if_neg (by omega), if_pos k, k]
  rw [h.out]
  go_enter Try.func74, Try.ntmps74
  go_wp2
  exact bodyPost_ret (v := .agg #[.int .u8 3, .int .i64 0, .int .i64 e.node, .int .i64 e.part, .int .i64 0, .int .i64 0, .int .i64 0, .int .i64 0, .int .i64 0, .int .i64 0, .int .i64 0, .string ⟨#[]⟩]) (by simp [results, Try.results74, go_sem]) rfl ⟨rfl, (by repeat (first | exact Below.refl _ _ | assumption | refine Below.drew ?_ | refine bdrewN ?_ _ | refine Below.alloc ?_ (by simp; try omega) _ | refine Below.setCell ?_ (by simp; try omega) _))⟩
theorem bare_4 (e : Ed) (w : World) (k : e.kind = 4) : Calls Try.prog 74 #[e.agg] w fun r w' => r = .returned (bareE e).agg ∧ Below w.heap.size w w' := by
  unfold Ed.agg
  have h : Hid (bareE e = ⟨4, 0, 0, 0, ⟨0, 0, e.f.depth, e.f.x, e.f.y, e.f.w, e.f.h, ByteArray.empty⟩⟩) := by rw [Hid, bareE, if_neg (by omega), if_neg (by omega), if_neg (by omega), if_pos k, k]
  rw [h.out]
  go_enter Try.func74, Try.ntmps74
  go_wp2
  exact bodyPost_ret (v := .agg #[.int .u8 4, .int .i64 0, .int .i64 0, .int .i64 0, .int .i64 0, .int .i64 0, .int .i64 e.f.depth, .int .i64 e.f.x, .int .i64 e.f.y, .int .i64 e.f.w, .int .i64 e.f.h, .string ⟨#[]⟩]) (by simp [results, Try.results74, go_sem]) rfl ⟨rfl, (by repeat (first | exact Below.refl _ _ | assumption | refine Below.drew ?_ | refine bdrewN ?_ _ | refine Below.alloc ?_ (by simp; try omega) _ | refine Below.setCell ?_ (by simp; try omega) _))⟩
theorem bare_5 (e : Ed) (w : World) (k : 5 ≤ e.kind) : Calls Try.prog 74 #[e.agg] w fun r w' => r = .returned (bareE e).agg ∧ Below w.heap.size w w' := by
  unfold Ed.agg
  have x0 : (e.kind == 0) = false := by simp; omega
  have x1 : (e.kind == 1) = false := by simp; omega
  have x2 : (e.kind == 2) = false := by simp; omega
  have x3 : (e.kind == 3) = false := by simp; omega
  have x4 : (e.kind == 4) = false := by simp; omega
  have h : Hid (bareE e = ⟨e.kind, 0, 0, 0, ⟨0, 0, 0, 0, 0, 0, 0, e.f.text⟩⟩) := by rw [Hid, bareE, if_neg (by omega), if_neg (by omega), if_neg (by omega), if_neg (by omega)]
  rw [h.out]
  go_enter Try.func74, Try.ntmps74
  go_wp2
  exact bodyPost_ret (v := .agg #[.int .u8 e.kind, .int .i64 0, .int .i64 0, .int .i64 0, .int .i64 0, .int .i64 0, .int .i64 0, .int .i64 0, .int .i64 0, .int .i64 0, .int .i64 0, .string e.f.text]) (by simp [results, Try.results74, go_sem]) rfl ⟨rfl, (by repeat (first | exact Below.refl _ _ | assumption | refine Below.drew ?_ | refine bdrewN ?_ _ | refine Below.alloc ?_ (by simp; try omega) _ | refine Below.setCell ?_ (by simp; try omega) _))⟩
theorem bare_any (e : Ed) (w : World) (h : 0 ≤ e.kind) : Calls Try.prog 74 #[e.agg] w fun r w' => r = .returned (bareE e).agg ∧ Below w.heap.size w w' := by
  have : e.kind = 0 ∨ e.kind = 1 ∨ e.kind = 2 ∨ e.kind = 3 ∨ e.kind = 4 ∨ 5 ≤ e.kind := by omega
  rcases this with k | k | k | k | k | k
  · exact bare_0 e w k
  · exact bare_1 e w k
  · exact bare_2 e w k
  · exact bare_3 e w k
  · exact bare_4 e w k
  · exact bare_5 e w k
end Go.Proofs.Ytiljpbncfofnhaa.EdC
