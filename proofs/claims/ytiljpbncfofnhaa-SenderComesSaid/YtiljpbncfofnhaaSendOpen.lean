/- sender: acts and chunks that come in as arguments. -/
import Derived.Test.YtiljpbncfofnhaaLift
import Derived.Test.YtiljpbncfofnhaaSendA
import Derived.Outline
import Derived.BigQuiet
import Derived.Deep.QuietTactic
import Derived.Deep.RegionWith
import Derived.Deep.RegionHeld3
import Derived.Deep.DrawnRows
import Derived.Deep.LoopGhost
import Derived.Deep.DeepCutAuto
import Derived.Laws.EntriesVeiled
namespace Go.Proofs.Ytiljpbncfofnhaa.Send
open Go.RowKit Go.ChangeShapes Go.WideShapes Go.ChangeAt
set_option linter.unusedVariables false
set_option linter.unusedSimpArgs false
attribute [local go_sem ↓] Go.wp_at_zero Go.wp_at_succ

theorem opens_u8 {H : Type} {ench : TypeId × Value → H} {w : World} {base : Nat} {held : Bool} : OpensAs ench Try.prog w base held 5 encB (fun _ => True) := by
  intro fuel cs x h hw
  obtain ⟨n, rfl, k⟩ := opens_int Try.underlying5 _ _ _ h hw
  have hb : 0 ≤ n ∧ n ≤ 255 := by simpa [Lit.wf, IntKind.min, IntKind.max, IntKind.signed, IntKind.bits] using k
  refine ⟨UInt8.ofNat n.toNat, ?_, trivial⟩
  simp only [encB]
  congr 2
  rw [UInt8.toNat_ofNat']
  omega

theorem opens_ch {H : Type} {ench : TypeId × Value → H} {w : World} {base : Nat} {held : Bool} : OpensAs ench Try.prog w base held 36 Ch.cells (Ch.Ok w) := by
  intro fuel cs x h hw
  obtain ⟨A, l, cap, r2, hsl, _, hle, hmx, _, hnil⟩ := open_sl_cells (c := 1) Try.underlying36 (by kernel_rfl) (by decide) opens_u8 h hw
  exact ⟨⟨A, l.length, cap, l⟩, r2, ⟨hsl, rfl, Nat.le_trans hle hmx, hle, hnil⟩⟩

theorem opens_act {H : Type} {ench : TypeId × Value → H} {w : World} {base : Nat} {held : Bool} : OpensAs ench Try.prog w base held 30 Act.cells (Act.Ok w) := by
  intro fuel cs x h hw
  obtain ⟨hl, n, hf⟩ := struct_cells Try.underlying30 (by kernel_rfl) (by kernel_rfl) h hw
  obtain ⟨v0, y0, e0, t0, w0⟩ := hf 0 _ rfl
  obtain ⟨v1, y1, e1, t1, w1⟩ := hf 1 _ rfl
  obtain ⟨v2, y2, e2, t2, w2⟩ := hf 2 _ rfl
  obtain ⟨n0, r0, k0⟩ := opens_int Try.underlying5 _ _ _ t0 w0
  obtain ⟨n1, r1, k1⟩ := opens_int Try.underlying3 _ _ _ t1 w1
  obtain ⟨A, l, cap, r2, hsl, hok, hle, hmx, hrc, _⟩ := open_sl_cells (c := 1) Try.underlying28 (by kernel_rfl) (by decide) opens_ch t2 w2
  simp only [List.cons.injEq, and_true] at r0 r1 r2
  have hby : Try.prog.bytesOf 36 = 24 := by kernel_rfl
  refine ⟨⟨n0, n1, A, l.length, cap, l⟩, ?_, ⟨by simpa [Lit.wf, IntKind.min, IntKind.max, IntKind.signed, IntKind.bits] using k0, k1, hsl, rfl, by have := reachBytes_lt; rw [hby] at hrc; simp only; omega, hok⟩⟩
  have hl' : cs.length = 3 := hl
  match cs, hl' with
  | [c0, c1, c2], _ => simp_all [Act.cells]

theorem le24 {n cap : Nat} (h : cap * Try.prog.bytesOf 36 ≤ reachBytes) (hn : n ≤ cap) : n ≤ 140737488355328 := by
  have hby : Try.prog.bytesOf 36 = 24 := by kernel_rfl
  have := reachBytes_lt
  rw [hby] at h
  omega

theorem i64_bounds {n : Int} (h : (Lit.int .i64 n).wf = true) : -9223372036854775808 ≤ n ∧ n ≤ 9223372036854775807 := by simpa [Lit.wf, IntKind.min, IntKind.max, IntKind.signed, IntKind.bits] using h
end Go.Proofs.Ytiljpbncfofnhaa.Send
