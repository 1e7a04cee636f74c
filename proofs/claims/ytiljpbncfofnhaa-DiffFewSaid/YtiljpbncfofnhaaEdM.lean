/- edit: edits that come in as arguments. -/
import Derived.Test.YtiljpbncfofnhaaLift
import Derived.Test.YtiljpbncfofnhaaEdA
import Derived.Outline
import Derived.BigQuiet
import Derived.Deep.QuietTactic
import Derived.Deep.RegionWith
import Derived.Deep.RegionHeld3
import Derived.Deep.DrawnRows
import Derived.Deep.LoopGhost
import Derived.Deep.DeepCutAuto
import Derived.Laws.EntriesVeiled
namespace Go.Proofs.Ytiljpbncfofnhaa
open Go.RowKit Go.ChangeShapes Go.WideShapes Go.ChangeAt
set_option linter.unusedVariables false
set_option linter.unusedSimpArgs false
attribute [local go_sem ↓] Go.wp_at_zero Go.wp_at_succ
section
variable {H : Type} {ench : TypeId × Value → H} {P : Program} {w : World} {base : Nat} {held : Bool}
/-- what reads as a struct, part by part -/
theorem struct_parts {t : TypeId} {fs : Array Field} {fuel : Nat} {cs : List Value} {x : DataW H × List MemPlace} (ht : P.underlying t = some (.struct fs))
    (h : DataW.trod ench P w base (fun _ => true) held fuel t cs = some x) (hwt : Light P t x.1) :
    cs.length = P.cellsOf t ∧ ∃ n, ∀ (j : Nat) (f : Field), fs[j]? = some f → ∃ y, DataW.trod ench P w base (fun _ => true) held n f.type ((cs.drop f.offset).take (P.cellsOf f.type)) = some y ∧ Light P f.type y.1 := by
  obtain ⟨ys, n, _, hy, hlen, hyl, hf⟩ := DataW.trod_struct ht h
  refine ⟨hlen, n, fun j f hj => ?_⟩
  have hjl : j < fs.size := (Array.getElem?_eq_some_iff.1 hj).1
  have h1 := hf j f hj
  have hys : ys[j]? = some (ys[j]'(by omega)) := List.getElem?_eq_getElem (by omega)
  refine ⟨_, h1.trans hys, fun m hm => hwt m ?_⟩
  subst hy
  simp only [DataW.weights, ht]
  exact weightsEach_of (j := j) (t := f.type) (by simp [Array.getElem?_toList, hj]) (by rw [List.getElem?_map, hys]; rfl) m hm
set_option maxRecDepth 100000 in
theorem opens_ed : OpensAs ench Try.prog w base held 69 Ed.cells Ed.Wf := by
  intro fuel cs x h hw
  obtain ⟨hl, n, hf⟩ := struct_parts Try.underlying69 h hw
  have hl' : cs.length = 12 := hl.trans (by kernel_rfl)
  have k5 : Try.prog.cellsOf 5 = 1 := by kernel_rfl
  have k3 : Try.prog.cellsOf 3 = 1 := by kernel_rfl
  have k67 : Try.prog.cellsOf 67 = 8 := by kernel_rfl
  obtain ⟨y0, t0, w0⟩ := hf 0 _ rfl
  obtain ⟨y1, t1, w1⟩ := hf 1 _ rfl
  obtain ⟨y2, t2, w2⟩ := hf 2 _ rfl
  obtain ⟨y3, t3, w3⟩ := hf 3 _ rfl
  obtain ⟨y4, t4, w4⟩ := hf 4 _ rfl
  obtain ⟨n0, r0, p0⟩ := opens_int Try.underlying5 _ _ _ t0 w0
  obtain ⟨n1, r1, p1⟩ := opens_int Try.underlying3 _ _ _ t1 w1
  obtain ⟨n2, r2, p2⟩ := opens_int Try.underlying3 _ _ _ t2 w2
  obtain ⟨n3, r3, p3⟩ := opens_int Try.underlying3 _ _ _ t3 w3
  obtain ⟨f, r4, p4⟩ := opens_fr _ _ _ t4 w4
  clear t0 t1 t2 t3 t4 w0 w1 w2 w3 w4 hf
  refine ⟨⟨n0, n1, n2, n3, f⟩, ?_, ⟨by simpa [Lit.wf, IntKind.min, IntKind.max, IntKind.signed, IntKind.bits] using p0, p1, p2, p3, p4⟩⟩
  match cs, hl' with
  | [c0, c1, c2, c3, c4, c5, c6, c7, c8, c9, c10, c11], _ =>
    simp [Fr.cells, k5, k3, k67] at r0 r1 r2 r3 r4
    simp [Ed.cells, r0, r1, r2, r3, r4]
end
end Go.Proofs.Ytiljpbncfofnhaa
