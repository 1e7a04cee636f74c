/- The step from a walk to the statement, as far as it is the same for all laws. -/
import Derived.Test.YtiljpbncfofnhaaRows
import Derived.Test.YtiljpbncfofnhaaOpen
import Derived.OpenShut
import Derived.ShutString
import Derived.ChangeOld
import Derived.Carry
namespace Go.Proofs.Ytiljpbncfofnhaa
open Go.ChangeShapes Go.WideShapes Go.ChangeAt Go.RowKit
set_option linter.unusedVariables false
set_option linter.unusedSimpArgs false

theorem own : ownKnob Try.prog.godebug = none := by kernel_rfl
theorem laidOut : laidOutB Try.prog = true := by kernel_rfl

def fitTypes (P : Program) (ts : List TypeId) : Bool := ts.all fun t => P.readableRec t && decide (t < P.types.size)

/-- arguments read behind the call as they read before, where below the heap's end nothing has turned -/
theorem keep_args {H : Type} {enc : TypeId × Value → H} {P : Program} (hl : laidOutB P = true) {W W' : World} (hb : Below W.heap.size W W') :
    ∀ {ts : List TypeId} {vs : List Value} {ds : List (DataW H)} {ps : List MemPlace}, fitTypes P ts = true →
      DataW.TrodAll enc P W 0 (fun _ => true) true ts vs ds ps → DataW.TrodAll enc P W' 0 (fun b => decide (b < W.heap.size)) true ts vs ds ps
  | [], vs, ds, ps, _, h => by obtain ⟨rfl, rfl, rfl⟩ := trodAll_nil h; exact trodAll_mk0
  | t :: ts, vs, ds, ps, hf, h => by
    obtain ⟨v, vs', d, ds', p, q, rfl, rfl, rfl, h1, h2⟩ := trodAll_cons h
    simp only [fitTypes, List.all_cons, Bool.and_eq_true, decide_eq_true_eq] at hf
    have lt : ∀ x ∈ p, x.block < W.heap.size := by obtain ⟨m, hm⟩ := h1; exact DataW.trod_lt m _ _ _ hm
    exact trodAll_cons_mk (Below.trod hl hf.1.1 hf.1.2 h1 hb lt) (keep_args hl hb (by unfold fitTypes; simpa using hf.2) h2)

/-- each argument is within the reach -/
theorem light_of {H : Type} {P : Program} {ts : List TypeId} {ds : List (DataW H)} (h : (DataW.weightsEach P ts ds).all (· ≤ reachBytes) = true) {j : Nat} {t : TypeId} {d : DataW H} (ht : ts[j]? = some t) (hd : ds[j]? = some d) : Light P t d :=
  fun n hn => by simpa using List.all_eq_true.1 h n (weightsEach_of ht hd n hn)

section
variable {H : Type} {ench : TypeId × Value → H} {w : World} {base : Nat} {held : Bool}
theorem opens_fr : OpensAs ench Try.prog w base held 67 Fr.cells Fr.Wf := by
  intro fuel cs x h hw
  obtain ⟨hl, n, hf⟩ := struct_cells Try.underlying67 (by kernel_rfl) (by kernel_rfl) h hw
  obtain ⟨v0, y0, e0, t0, _⟩ := hf 0 _ rfl
  obtain ⟨v1, y1, e1, t1, _⟩ := hf 1 _ rfl
  obtain ⟨v2, y2, e2, t2, _⟩ := hf 2 _ rfl
  obtain ⟨v3, y3, e3, t3, _⟩ := hf 3 _ rfl
  obtain ⟨v4, y4, e4, t4, _⟩ := hf 4 _ rfl
  obtain ⟨v5, y5, e5, t5, _⟩ := hf 5 _ rfl
  obtain ⟨v6, y6, e6, t6, _⟩ := hf 6 _ rfl
  obtain ⟨v7, y7, e7, t7, w7⟩ := hf 7 _ rfl
  obtain ⟨n0, r0, k0⟩ := opens_int Try.underlying3 _ _ _ t0 ‹_›
  obtain ⟨n1, r1, k1⟩ := opens_int Try.underlying3 _ _ _ t1 ‹_›
  obtain ⟨n2, r2, k2⟩ := opens_int Try.underlying3 _ _ _ t2 ‹_›
  obtain ⟨n3, r3, k3⟩ := opens_int Try.underlying3 _ _ _ t3 ‹_›
  obtain ⟨n4, r4, k4⟩ := opens_int Try.underlying3 _ _ _ t4 ‹_›
  obtain ⟨n5, r5, k5⟩ := opens_int Try.underlying3 _ _ _ t5 ‹_›
  obtain ⟨n6, r6, k6⟩ := opens_int Try.underlying3 _ _ _ t6 ‹_›
  obtain ⟨s7, r7, k7⟩ := opens_string Try.underlying9 _ _ _ t7 w7
  simp only [List.cons.injEq, and_true] at r0 r1 r2 r3 r4 r5 r6 r7
  refine ⟨⟨n0, n1, n2, n3, n4, n5, n6, s7⟩, ?_, ⟨k0, k1, k2, k3, k4, k5, k6, by have := reachBytes_lt; simp only; omega⟩⟩
  have hl' : cs.length = 8 := hl
  match cs, hl' with
  | [c0, c1, c2, c3, c4, c5, c6, c7], _ => simp_all [Fr.cells]
end
end Go.Proofs.Ytiljpbncfofnhaa
