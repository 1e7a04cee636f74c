/- Equality of keys and of fragments, as the walk meets it. -/
import Derived.Test.YtiljpbncfofnhaaRows
import Derived.Test.YtiljpbncfofnhaaWords
import Derived.ChangeKeysEq
import Derived.Laws.StructEq
import Derived.Deep.DrawnRows
namespace Go.Proofs.Ytiljpbncfofnhaa
open Go.RowKit Go.ChangeShapes Go.WideShapes Go.ChangeAt
set_option linter.unusedVariables false
set_option linter.unusedSimpArgs false
attribute [local go_sem ↓] Go.wp_at_zero Go.wp_at_succ

/-- two fragments are the same, field by field -/
def Fr.beq (f g : Fr) : Bool :=
  f.node == g.node && f.part == g.part && f.depth == g.depth && f.x == g.x && f.y == g.y && f.w == g.w && f.h == g.h && f.text.toList == g.text.toList

theorem Fr.beq_iff (f g : Fr) : Fr.beq f g = true ↔ f = g := by
  obtain ⟨a, b, c, d, e, i, j, s⟩ := f
  obtain ⟨a', b', c', d', e', i', j', s'⟩ := g
  have ht : s.toList = s'.toList ↔ s = s' := by
    rw [ByteArray.toList_eq, ByteArray.toList_eq]
    obtain ⟨⟨x⟩⟩ := s
    obtain ⟨⟨y⟩⟩ := s'
    simp
  simp only [Fr.beq, Bool.and_eq_true, beq_iff_eq, Fr.mk.injEq, ht]
  simp [and_assoc]

theorem Fr.beq_self (f : Fr) : Fr.beq f f = true := (Fr.beq_iff f f).2 rfl

theorem keyEq (a b c d : Int) (w : World) : (Op.equalIn 10000 144 (.agg #[.int .i64 a, .int .i64 b]) (.agg #[.int .i64 c, .int .i64 d])).run Try.prog w = .ok (a == c && b == d) w := by
  have hu : Try.prog.underlying 144 = some (.array 2 3) := by kernel_rfl
  obtain ⟨i, hi⟩ : ∃ i, Try.prog.info? 3 = some i := Option.isSome_iff_exists.1 (by kernel_rfl)
  have h1 : Try.prog.cellsOf 3 = 1 := by kernel_rfl
  have hk := Try.underlying3
  have hr : List.range 2 = [0, 1] := rfl
  rw [run_equalIn_array w 9999 _ _ hu hi, h1, hr]
  have hp : Try.prog.plainKey 3 = true := by kernel_rfl
  simp only [Op.eqItems, Sem.run_bind, Nat.zero_mul, Nat.one_mul]
  rw [run_part_plain w hp (v := .int .i64 a) rfl]
  simp only [Result.andThen_ok]
  rw [run_part_plain w hp (v := .int .i64 c) rfl]
  simp only [Result.andThen_ok]
  rw [run_equalIn_int w 9998 _ _ _ _ _ hk]
  simp only [Result.andThen_ok]
  cases hac : (a == c)
  · simp
  · simp only [Bool.not_true, Bool.false_eq_true, if_false, Sem.run_bind]
    rw [run_part_plain w hp (v := .int .i64 b) rfl]
    simp only [Result.andThen_ok]
    rw [run_part_plain w hp (v := .int .i64 d) rfl]
    simp only [Result.andThen_ok]
    rw [run_equalIn_int w 9998 _ _ _ _ _ hk]
    simp only [Result.andThen_ok]
    cases (b == d) <;> simp

theorem frEq (f g : Fr) (w : World) : (Op.equalIn 10000 67 f.agg g.agg).run Try.prog w = .ok (Fr.beq f g) w := by
  have u3 := Try.underlying3
  have u9 := Try.underlying9
  have hS : Try.prog.underlying 67 = some (.struct (Try.prog.fieldsOf 67)) := by kernel_rfl
  have hp : Try.prog.stoodInHeld 67 = false := by kernel_rfl
  unfold Fr.agg Fr.beq
  rw [show (10000 : Nat) = 9999 + 1 from rfl, run_equalIn_agg w 9999 _ _ _ hS hp]
  simp only [Program.fieldsOf, Try.underlying67]
  go_simp
  (repeat' split) <;> simp [*]

theorem frGuard : Try.prog.eqGuardType Try.prog.depth 67 = false := by kernel_rfl
theorem frNeq (f g : Fr) (w : World) : (binOp .neq 67 (.agg #[.int .i64 f.node, .int .i64 f.part, .int .i64 f.depth, .int .i64 f.x, .int .i64 f.y, .int .i64 f.w, .int .i64 f.h, .string f.text])
    (.agg #[.int .i64 g.node, .int .i64 g.part, .int .i64 g.depth, .int .i64 g.x, .int .i64 g.y, .int .i64 g.w, .int .i64 g.h, .string g.text])).run Try.prog w = .ok (.bool (!Fr.beq f g)) w := by
  rw [run_neq_struct]
  have h := frEq f g w
  unfold Fr.agg at h
  rw [h]
  rfl

/-- frEq, laid open as the walk writes a fragment -/
theorem frEq' (f g : Fr) (w : World) : (Op.equalIn 10000 67 (.agg #[.int .i64 f.node, .int .i64 f.part, .int .i64 f.depth, .int .i64 f.x, .int .i64 f.y, .int .i64 f.w, .int .i64 f.h, .string f.text])
    (.agg #[.int .i64 g.node, .int .i64 g.part, .int .i64 g.depth, .int .i64 g.x, .int .i64 g.y, .int .i64 g.w, .int .i64 g.h, .string g.text])).run Try.prog w = .ok (Fr.beq f g) w := frEq f g w
end Go.Proofs.Ytiljpbncfofnhaa
