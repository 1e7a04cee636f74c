/- edit: edits in memory; equality of edits as the walk meets it. -/
import Derived.Test.YtiljpbncfofnhaaFragB
import Derived.Test.YtiljpbncfofnhaaHeap
import Derived.Outline
import Derived.BigQuiet
import Derived.Deep.QuietTactic
import Derived.Deep.RegionWith
import Derived.Deep.RegionHeld3
import Derived.Deep.DrawnRows
import Derived.Deep.LoopGhost
import Derived.Deep.DeepCutAuto
import Derived.Laws.EntriesVeiled
namespace Go.Proofs.Ytiljpbncfofnhaa
open Go.RowKit Go.ChangeShapes Go.WideShapes Go.ChangeAt
set_option linter.unusedVariables false
set_option linter.unusedSimpArgs false
attribute [local go_sem ↓] Go.wp_at_zero Go.wp_at_succ

/-- an edit -/
structure Ed where
  kind : Int
  n : Int
  node : Int
  part : Int
  f : Fr
def Ed.cells (e : Ed) : List Value := [.int .u8 e.kind, .int .i64 e.n, .int .i64 e.node, .int .i64 e.part, .int .i64 e.f.node, .int .i64 e.f.part, .int .i64 e.f.depth, .int .i64 e.f.x, .int .i64 e.f.y, .int .i64 e.f.w, .int .i64 e.f.h, .string e.f.text]
def Ed.agg (e : Ed) : Value := .agg #[.int .u8 e.kind, .int .i64 e.n, .int .i64 e.node, .int .i64 e.part, .int .i64 e.f.node, .int .i64 e.f.part, .int .i64 e.f.depth, .int .i64 e.f.x, .int .i64 e.f.y, .int .i64 e.f.w, .int .i64 e.f.h, .string e.f.text]
structure Ed.Wf (e : Ed) : Prop where
  kind : 0 ≤ e.kind ∧ e.kind ≤ 255
  n : (Lit.int .i64 e.n).wf = true
  node : (Lit.int .i64 e.node).wf = true
  part : (Lit.int .i64 e.part).wf = true
  f : e.f.Wf
theorem Ed.cells_len (e : Ed) : e.cells.length = 12 := rfl
theorem Ed.cells_one (e : Ed) : ∀ u ∈ e.cells, u.oneCell' = true := by simp [Ed.cells, Value.oneCell']
abbrev EdSl (w : World) (B : Nat) (A : Option Addr) (l : List Ed) : Prop := Sl w B 12 Ed.cells A l
def EdsWf (l : List Ed) : Prop := ∀ e ∈ l, e.Wf
/-- the cells of edit k -/
theorem EdSl.at_ {w : World} {B : Nat} {A : Option Addr} {l : List Ed} (h : EdSl w B A l) {k : Nat} {e : Ed} (hx : l[k]? = some e) :
    ∃ b off, A = some ⟨b, off, none⟩ ∧ b < B ∧ w.cell? ⟨b, off + k * 12, none⟩ = some (.int .u8 e.kind) ∧ w.cell? ⟨b, off + k * 12 + 1, none⟩ = some (.int .i64 e.n) ∧
      w.cell? ⟨b, off + k * 12 + 2, none⟩ = some (.int .i64 e.node) ∧ w.cell? ⟨b, off + k * 12 + 3, none⟩ = some (.int .i64 e.part) ∧ w.cell? ⟨b, off + k * 12 + 4, none⟩ = some (.int .i64 e.f.node) ∧
      w.cell? ⟨b, off + k * 12 + 5, none⟩ = some (.int .i64 e.f.part) ∧ w.cell? ⟨b, off + k * 12 + 6, none⟩ = some (.int .i64 e.f.depth) ∧ w.cell? ⟨b, off + k * 12 + 7, none⟩ = some (.int .i64 e.f.x) ∧
      w.cell? ⟨b, off + k * 12 + 8, none⟩ = some (.int .i64 e.f.y) ∧ w.cell? ⟨b, off + k * 12 + 9, none⟩ = some (.int .i64 e.f.w) ∧ w.cell? ⟨b, off + k * 12 + 10, none⟩ = some (.int .i64 e.f.h) ∧
      w.cell? ⟨b, off + k * 12 + 11, none⟩ = some (.string e.f.text) := by
  obtain ⟨b, off, e, hb, hc⟩ := Sl.at_ h hx
  exact ⟨b, off, e, hb, hc 0 _ rfl, hc 1 _ rfl, hc 2 _ rfl, hc 3 _ rfl, hc 4 _ rfl, hc 5 _ rfl, hc 6 _ rfl, hc 7 _ rfl, hc 8 _ rfl, hc 9 _ rfl, hc 10 _ rfl, hc 11 _ rfl⟩
theorem edInfo : (Try.prog.info? 69).map (fun i => (i.zero, i.size, i.bytes)) = some (some (.agg #[.int .u8 0, .int .i64 0, .int .i64 0, .int .i64 0, .int .i64 0, .int .i64 0, .int .i64 0, .int .i64 0, .int .i64 0, .int .i64 0, .int .i64 0, .string ByteArray.empty]), 12, 104) := by kernel_rfl

def Ed.beq (e g : Ed) : Bool := e.kind == g.kind && e.n == g.n && e.node == g.node && e.part == g.part && Fr.beq e.f g.f
theorem Ed.beq_iff (e g : Ed) : Ed.beq e g = true ↔ e = g := by
  obtain ⟨a, b, c, d, f⟩ := e
  obtain ⟨a', b', c', d', f'⟩ := g
  simp only [Ed.beq, Bool.and_eq_true, beq_iff_eq, Ed.mk.injEq, Fr.beq_iff, and_assoc]
theorem Ed.beq_self (e : Ed) : Ed.beq e e = true := (Ed.beq_iff e e).2 rfl

theorem ifok {w : World} {c : Prop} [Decidable c] {b : Bool} {r : Result Bool} (h : r = .ok b w) : (if c then r else .ok false w) = .ok (decide c && b) w := by
  by_cases hc : c <;> simp [hc, h]
theorem edEq (e g : Ed) (w : World) : (Op.equalIn 10000 69 e.agg g.agg).run Try.prog w = .ok (Ed.beq e g) w := by
  have u3 := Try.underlying3
  have u5 := Try.underlying5
  have u9 := Try.underlying9
  have hS : Try.prog.underlying 69 = some (.struct (Try.prog.fieldsOf 69)) := by kernel_rfl
  have hp : Try.prog.stoodInHeld 69 = false := by kernel_rfl
  unfold Ed.agg Ed.beq
  rw [show (10000 : Nat) = 9999 + 1 from rfl, run_equalIn_agg w 9999 _ _ _ hS hp]
  simp only [Program.fieldsOf, Try.underlying69]
  go_simp
  unfold Fr.beq
  refine (ifok (ifok (ifok (ifok (ifok (ifok (ifok (ifok (ifok (ifok (ifok (ifok (b := true) rfl)))))))))))).trans (congrArg (fun b => Result.ok b w) ?_)
  rw [Bool.eq_iff_iff]
  simp [and_assoc]
theorem edGuard : Try.prog.eqGuardType Try.prog.depth 69 = false := by kernel_rfl
/-- the same, laid open as the walk writes an edit -/
theorem edEq' (e g : Ed) (w : World) : (Op.equalIn 10000 69 (.agg #[.int .u8 e.kind, .int .i64 e.n, .int .i64 e.node, .int .i64 e.part, .int .i64 e.f.node, .int .i64 e.f.part, .int .i64 e.f.depth, .int .i64 e.f.x, .int .i64 e.f.y, .int .i64 e.f.w, .int .i64 e.f.h, .string e.f.text])
    (.agg #[.int .u8 g.kind, .int .i64 g.n, .int .i64 g.node, .int .i64 g.part, .int .i64 g.f.node, .int .i64 g.f.part, .int .i64 g.f.depth, .int .i64 g.f.x, .int .i64 g.f.y, .int .i64 g.f.w, .int .i64 g.f.h, .string g.f.text])).run Try.prog w = .ok (Ed.beq e g) w := edEq e g w
theorem edNeq (e g : Ed) (w : World) : (binOp .neq 69 (.agg #[.int .u8 e.kind, .int .i64 e.n, .int .i64 e.node, .int .i64 e.part, .int .i64 e.f.node, .int .i64 e.f.part, .int .i64 e.f.depth, .int .i64 e.f.x, .int .i64 e.f.y, .int .i64 e.f.w, .int .i64 e.f.h, .string e.f.text])
    (.agg #[.int .u8 g.kind, .int .i64 g.n, .int .i64 g.node, .int .i64 g.part, .int .i64 g.f.node, .int .i64 g.f.part, .int .i64 g.f.depth, .int .i64 g.f.x, .int .i64 g.f.y, .int .i64 g.f.w, .int .i64 g.f.h, .string g.f.text])).run Try.prog w = .ok (.bool (!Ed.beq e g)) w := by
  rw [run_neq_struct, edEq']
  rfl

def eqE : List Ed → List Ed → Bool
  | [], [] => true
  | f :: l, g :: m => Ed.beq f g && eqE l m
  | _, _ => false
theorem eqE_iff : ∀ l m : List Ed, eqE l m = true ↔ l = m
  | [], [] => by simp [eqE]
  | f :: l, g :: m => by simp [eqE, Ed.beq_iff, eqE_iff l m]
  | [], g :: m => by simp [eqE]
  | f :: l, [] => by simp [eqE]
theorem eqE_self (l : List Ed) : eqE l l = true := (eqE_iff l l).2 rfl
theorem eqE_len {l m : List Ed} (h : l.length ≠ m.length) : eqE l m = false := by
  cases he : eqE l m with
  | false => rfl
  | true => exact absurd (congrArg List.length ((eqE_iff l m).1 he)) h
end Go.Proofs.Ytiljpbncfofnhaa
