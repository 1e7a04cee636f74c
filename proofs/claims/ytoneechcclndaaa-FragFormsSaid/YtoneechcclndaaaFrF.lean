/- frag: the document's natural, Of. -/
import Derived.Test.YtoneechcclndaaaFrD
import Derived.Outline
import Derived.BigQuiet
import Derived.Deep.QuietTactic
import Derived.Deep.RegionWith
import Derived.Deep.RegionHeld3
import Derived.Deep.DrawnRows
import Derived.Deep.LoopGhost
import Derived.Deep.DeepCutAuto
import Derived.Laws.EntriesVeiled
namespace Go.Proofs.Ytoneechcclndaaa.FForm
open Go.RowKit Go.ChangeShapes Go.WideShapes Go.ChangeAt
set_option linter.unusedVariables false
set_option linter.unusedSimpArgs false
attribute [local go_sem ↓] Go.wp_at_zero Go.wp_at_succ
open Go.Shelf Go.Proofs.Ytoneechcclndaaa.Word Go.Proofs.Ytoneechcclndaaa.Wire Go.Proofs.Ytoneechcclndaaa.Msg FragA FragB MayA Tree FCheck lawTorn FTr

theorem nat20_any (r : Wr) (w : World) : Calls Try.prog 94 #[r.agg] w fun e w' => e = .returned (.int .i64 (natR r.v)) ∧ Below w.heap.size w w' := by
  unfold Wr.agg
  by_cases h : 1099511627776 < r.v.n
  · have d1 : decide ((1099511627776 : Int) < (r.v.n : Int)) = true := decide_eq_true (by omega)
    have HN : Hid (natR r.v = -1) := by unfold Hid natR; rw [if_pos h]
    go_enter Try.func94, Try.ntmps94
    go_wp2
    go_ret
    exact ⟨ret_int HN.out.symm, (by repeat (first | exact Below.refl _ _ | assumption | refine Below.drew ?_ | refine bdrewN ?_ _ | refine Below.alloc ?_ (by simp; try omega) _ | refine Below.setCell ?_ (by simp; try omega) _))⟩
  · have d1 : decide ((1099511627776 : Int) < (r.v.n : Int)) = false := decide_eq_false (by omega)
    have d2 : IntKind.i64.wrap (r.v.n : Int) = (r.v.n : Int) := IntWalk.i64_in _ (by omega)
    have HN : Hid (natR r.v = (r.v.n : Int)) := by unfold Hid natR; rw [if_neg h]
    go_enter Try.func94, Try.ntmps94
    go_wp2
    go_ret
    exact ⟨ret_int HN.out.symm, (by repeat (first | exact Below.refl _ _ | assumption | refine Below.drew ?_ | refine bdrewN ?_ _ | refine Below.alloc ?_ (by simp; try omega) _ | refine Below.setCell ?_ (by simp; try omega) _))⟩
theorem nat20_agg (r : Wr) (W : World) : Calls Try.prog 94 #[.agg #[.int .u64 (r.v.n : Int), .int .i64 r.v.i, .bool r.v.f, .slice r.bA r.bn r.bc, .slice r.lA r.ln r.lc]] W fun e w' => e = .returned (.int .i64 (natR r.v)) ∧ Below W.heap.size W w' := nat20_any r W
theorem own_one (w : World) (f : Fr) : OwnA (w.alloc (.cells #[.int .i64 f.node, .int .i64 f.part, .int .i64 f.depth, .int .i64 f.x, .int .i64 f.y, .int .i64 f.w, .int .i64 f.h, .string f.text] 65)) 65 8 Fr.cells (.slice (some ⟨w.heap.size, 0, none⟩) 1 1) [f] :=
  .inr ⟨w.heap.size, 0, 1, _, rfl, heap_alloc_new w _, Nat.le_refl _, by simp [maxLen], by simp, by simp [Fr.cells]⟩
set_option maxHeartbeats 8000000 in
set_option maxRecDepth 100000 in
theorem of20_any (r0 r1 r2 r3 r4 r5 r6 r7 : Wr) (A : Option Addr) (n c : Nat) (w : World) (hl : Sl w w.heap.size 5 Wr.cells A [r0, r1, r2, r3, r4, r5, r6, r7]) (hn : n = 8) (hb : BySl w w.heap.size r7.bA r7.v.b) (hbn : r7.bn = r7.v.b.length) :
    Calls Try.prog 79 #[.slice A n c] w fun e w' => e = .returned (⟨natR r0.v, natR r1.v, natR r2.v, r3.v.i, r4.v.i, r5.v.i, r6.v.i, ⟨r7.v.b.toArray⟩⟩ : Fr).agg ∧ Below w.heap.size w w' := by
  subst hn
  obtain ⟨vb, vo, rfl, hvb, x00, x01, x02, x03, x04⟩ := Wr.at_ hl (j := 0) (r := r0) rfl
  obtain ⟨vb', vo', hA', _, x10, x11, x12, x13, x14⟩ := Wr.at_ hl (j := 1) (r := r1) rfl
  obtain ⟨rfl, rfl⟩ : vb = vb' ∧ vo = vo' := by injection hA' with h; injection h with h1 h2; exact ⟨h1, h2⟩
  obtain ⟨vb', vo', hA', _, x20, x21, x22, x23, x24⟩ := Wr.at_ hl (j := 2) (r := r2) rfl
  obtain ⟨rfl, rfl⟩ : vb = vb' ∧ vo = vo' := by injection hA' with h; injection h with h1 h2; exact ⟨h1, h2⟩
  obtain ⟨vb', vo', hA', _, _, x31, _⟩ := Wr.at_ hl (j := 3) (r := r3) rfl
  obtain ⟨rfl, rfl⟩ : vb = vb' ∧ vo = vo' := by injection hA' with h; injection h with h1 h2; exact ⟨h1, h2⟩
  obtain ⟨vb', vo', hA', _, _, x41, _⟩ := Wr.at_ hl (j := 4) (r := r4) rfl
  obtain ⟨rfl, rfl⟩ : vb = vb' ∧ vo = vo' := by injection hA' with h; injection h with h1 h2; exact ⟨h1, h2⟩
  obtain ⟨vb', vo', hA', _, _, x51, _⟩ := Wr.at_ hl (j := 5) (r := r5) rfl
  obtain ⟨rfl, rfl⟩ : vb = vb' ∧ vo = vo' := by injection hA' with h; injection h with h1 h2; exact ⟨h1, h2⟩
  obtain ⟨vb', vo', hA', _, _, x61, _⟩ := Wr.at_ hl (j := 6) (r := r6) rfl
  obtain ⟨rfl, rfl⟩ : vb = vb' ∧ vo = vo' := by injection hA' with h; injection h with h1 h2; exact ⟨h1, h2⟩
  obtain ⟨vb', vo', hA', _, _, _, _, x73, _⟩ := Wr.at_ hl (j := 7) (r := r7) rfl
  obtain ⟨rfl, rfl⟩ : vb = vb' ∧ vo = vo' := by injection hA' with h; injection h with h1 h2; exact ⟨h1, h2⟩
  clear hA' hl
  simp only [Nat.zero_mul, Nat.one_mul, Nat.reduceMul, Nat.add_zero, Nat.add_assoc, Nat.reduceAdd] at x00 x01 x02 x03 x04 x10 x11 x12 x13 x14 x20 x21 x22 x23 x24 x31 x41 x51 x61 x73
  go_enter Try.func79, Try.ntmps79
  go_upto_region 1 with fail
  have HO : Hid (OwnA (w.alloc (.cells #[.int .i64 0, .int .i64 0, .int .i64 0, .int .i64 0, .int .i64 0, .int .i64 0, .int .i64 0, .string ⟨#[]⟩] 65)) 65 8 Fr.cells (.slice (some ⟨w.heap.size, 0, none⟩) 1 1) [fr0]) := own_one w fr0
  have HB0 : Hid (Below w.heap.size w (w.alloc (.cells #[.int .i64 0, .int .i64 0, .int .i64 0, .int .i64 0, .int .i64 0, .int .i64 0, .int .i64 0, .string ⟨#[]⟩] 65))) := below_1 w _
  obtain ⟨hq1, _⟩ := bcell HB0.out
  have y00 := (hq1 vb _ hvb).trans x00
  have y01 := (hq1 vb _ hvb).trans x01
  have y02 := (hq1 vb _ hvb).trans x02
  have y03 := (hq1 vb _ hvb).trans x03
  have y04 := (hq1 vb _ hvb).trans x04
  have y10 := (hq1 vb _ hvb).trans x10
  have y11 := (hq1 vb _ hvb).trans x11
  have y12 := (hq1 vb _ hvb).trans x12
  have y13 := (hq1 vb _ hvb).trans x13
  have y14 := (hq1 vb _ hvb).trans x14
  have y20 := (hq1 vb _ hvb).trans x20
  have y21 := (hq1 vb _ hvb).trans x21
  have y22 := (hq1 vb _ hvb).trans x22
  have y23 := (hq1 vb _ hvb).trans x23
  have y24 := (hq1 vb _ hvb).trans x24
  have y31 := (hq1 vb _ hvb).trans x31
  have y41 := (hq1 vb _ hvb).trans x41
  have y51 := (hq1 vb _ hvb).trans x51
  have y61 := (hq1 vb _ hvb).trans x61
  have y73 := (hq1 vb _ hvb).trans x73
  have hvb2 : vb < (w.alloc (.cells #[.int .i64 0, .int .i64 0, .int .i64 0, .int .i64 0, .int .i64 0, .int .i64 0, .int .i64 0, .string ⟨#[]⟩] 65)).heap.size := Nat.lt_of_lt_of_le hvb HB0.out.size
  have hcv : Hid (∀ W', Below (w.alloc (.cells #[.int .i64 0, .int .i64 0, .int .i64 0, .int .i64 0, .int .i64 0, .int .i64 0, .int .i64 0, .string ⟨#[]⟩] 65)).heap.size (w.alloc (.cells #[.int .i64 0, .int .i64 0, .int .i64 0, .int .i64 0, .int .i64 0, .int .i64 0, .int .i64 0, .string ⟨#[]⟩] 65)) W' → (convert 25 9 (.slice r7.bA r7.bn r7.bc)).run Try.prog W' = .ok (.string ⟨r7.v.b.toArray⟩) W') := fun W' h =>
    conv_str r7.v.b r7.bA r7.bn r7.bc _ W' ((hb.ext HB0.out).ext h) hbn
  clear hq1 x00 x01 x02 x03 x04 x10 x11 x12 x13 x14 x20 x21 x22 x23 x24 x31 x41 x51 x61 x73 hb hbn
  generalize w.alloc (.cells #[.int .i64 0, .int .i64 0, .int .i64 0, .int .i64 0, .int .i64 0, .int .i64 0, .int .i64 0, .string ⟨#[]⟩] 65) = w1 at *
  refine Uni.region (last := 34) (S := fun w' => Below w1.heap.size w1 w') (by kernel_rfl) ((Below.refl _ _).drew) ?_
  try simp only [Act.put, List.setIfInBounds_toArray, List.set_cons_zero, List.set_cons_succ]
  (refine Uni.WU.take (i := 0) (oi := { dst := some 3, op := _, type := _, pos := _, after := _, guard := _ }) (v := ?_) rfl (by kernel_rfl) (by kernel_rfl) (by decide) (by kernel_rfl) (by kernel_rfl) (Uni.Uni.run (by kernel_rfl) (by intro W' hS'; obtain ⟨hq1, hq2⟩ := bcell hS'; go_simp; try with_reducible rfl)) ?_; (try simp only [Act.put, List.setIfInBounds_toArray, List.set_cons_zero, List.set_cons_succ]))
  (refine Uni.WU.take (i := 1) (oi := { dst := some 4, op := _, type := _, pos := _, after := _, guard := _ }) (v := ?_) rfl (by kernel_rfl) (by kernel_rfl) (by decide) (by kernel_rfl) (by kernel_rfl) (Uni.Uni.run (by kernel_rfl) (by intro W' hS'; obtain ⟨hq1, hq2⟩ := bcell hS'; go_simp; try with_reducible rfl)) ?_; (try simp only [Act.put, List.setIfInBounds_toArray, List.set_cons_zero, List.set_cons_succ]))
  (refine Uni.WU.take (i := 2) (oi := { dst := some 5, op := _, type := _, pos := _, after := _, guard := _ }) (v := ?_) rfl (by kernel_rfl) (by kernel_rfl) (by decide) (by kernel_rfl) (by kernel_rfl) (Uni.Uni.run (by kernel_rfl) (by intro W' hS'; obtain ⟨hq1, hq2⟩ := bcell hS'; go_simp; try with_reducible rfl)) ?_; (try simp only [Act.put, List.setIfInBounds_toArray, List.set_cons_zero, List.set_cons_succ]))
  (refine Uni.WU.take (i := 3) (oi := { dst := some 6, op := _, type := _, pos := _, after := _, guard := _ }) (v := .int .i64 (natR r0.v)) rfl (by kernel_rfl) (by kernel_rfl) (by decide) (by kernel_rfl) (by kernel_rfl) (Uni.Uni.call (by kernel_rfl) (by intro W' hS'; go_simp; try with_reducible rfl) (fun W' hS' => (nat20_agg r0 W').mono fun e w' h => ⟨h.1, ext_under hS' (Nat.le_refl _) h.2⟩)) ?_; (try simp only [Act.put, List.setIfInBounds_toArray, List.set_cons_zero, List.set_cons_succ]))
  (refine Uni.WU.take (i := 4) (oi := { dst := some 7, op := _, type := _, pos := _, after := _, guard := _ }) (v := ?_) rfl (by kernel_rfl) (by kernel_rfl) (by decide) (by kernel_rfl) (by kernel_rfl) (Uni.Uni.run (by kernel_rfl) (by intro W' hS'; obtain ⟨hq1, hq2⟩ := bcell hS'; go_simp; try with_reducible rfl)) ?_; (try simp only [Act.put, List.setIfInBounds_toArray, List.set_cons_zero, List.set_cons_succ]))
  (refine Uni.WU.take (i := 5) (oi := { dst := some 8, op := _, type := _, pos := _, after := _, guard := _ }) (v := ?_) rfl (by kernel_rfl) (by kernel_rfl) (by decide) (by kernel_rfl) (by kernel_rfl) (Uni.Uni.run (by kernel_rfl) (by intro W' hS'; obtain ⟨hq1, hq2⟩ := bcell hS'; go_simp; try with_reducible rfl)) ?_; (try simp only [Act.put, List.setIfInBounds_toArray, List.set_cons_zero, List.set_cons_succ]))
  (refine Uni.WU.take (i := 6) (oi := { dst := some 9, op := _, type := _, pos := _, after := _, guard := _ }) (v := ?_) rfl (by kernel_rfl) (by kernel_rfl) (by decide) (by kernel_rfl) (by kernel_rfl) (Uni.Uni.run (by kernel_rfl) (by intro W' hS'; obtain ⟨hq1, hq2⟩ := bcell hS'; go_simp; try with_reducible rfl)) ?_; (try simp only [Act.put, List.setIfInBounds_toArray, List.set_cons_zero, List.set_cons_succ]))
  (refine Uni.WU.take (i := 7) (oi := { dst := some 10, op := _, type := _, pos := _, after := _, guard := _ }) (v := .int .i64 (natR r1.v)) rfl (by kernel_rfl) (by kernel_rfl) (by decide) (by kernel_rfl) (by kernel_rfl) (Uni.Uni.call (by kernel_rfl) (by intro W' hS'; go_simp; try with_reducible rfl) (fun W' hS' => (nat20_agg r1 W').mono fun e w' h => ⟨h.1, ext_under hS' (Nat.le_refl _) h.2⟩)) ?_; (try simp only [Act.put, List.setIfInBounds_toArray, List.set_cons_zero, List.set_cons_succ]))
  (refine Uni.WU.take (i := 8) (oi := { dst := some 11, op := _, type := _, pos := _, after := _, guard := _ }) (v := ?_) rfl (by kernel_rfl) (by kernel_rfl) (by decide) (by kernel_rfl) (by kernel_rfl) (Uni.Uni.run (by kernel_rfl) (by intro W' hS'; obtain ⟨hq1, hq2⟩ := bcell hS'; go_simp; try with_reducible rfl)) ?_; (try simp only [Act.put, List.setIfInBounds_toArray, List.set_cons_zero, List.set_cons_succ]))
  (refine Uni.WU.take (i := 9) (oi := { dst := some 12, op := _, type := _, pos := _, after := _, guard := _ }) (v := ?_) rfl (by kernel_rfl) (by kernel_rfl) (by decide) (by kernel_rfl) (by kernel_rfl) (Uni.Uni.run (by kernel_rfl) (by intro W' hS'; obtain ⟨hq1, hq2⟩ := bcell hS'; go_simp; try with_reducible rfl)) ?_; (try simp only [Act.put, List.setIfInBounds_toArray, List.set_cons_zero, List.set_cons_succ]))
  (refine Uni.WU.take (i := 10) (oi := { dst := some 13, op := _, type := _, pos := _, after := _, guard := _ }) (v := ?_) rfl (by kernel_rfl) (by kernel_rfl) (by decide) (by kernel_rfl) (by kernel_rfl) (Uni.Uni.run (by kernel_rfl) (by intro W' hS'; obtain ⟨hq1, hq2⟩ := bcell hS'; go_simp; try with_reducible rfl)) ?_; (try simp only [Act.put, List.setIfInBounds_toArray, List.set_cons_zero, List.set_cons_succ]))
  (refine Uni.WU.take (i := 11) (oi := { dst := some 14, op := _, type := _, pos := _, after := _, guard := _ }) (v := .int .i64 (natR r2.v)) rfl (by kernel_rfl) (by kernel_rfl) (by decide) (by kernel_rfl) (by kernel_rfl) (Uni.Uni.call (by kernel_rfl) (by intro W' hS'; go_simp; try with_reducible rfl) (fun W' hS' => (nat20_agg r2 W').mono fun e w' h => ⟨h.1, ext_under hS' (Nat.le_refl _) h.2⟩)) ?_; (try simp only [Act.put, List.setIfInBounds_toArray, List.set_cons_zero, List.set_cons_succ]))
  (refine Uni.WU.take (i := 12) (oi := { dst := some 15, op := _, type := _, pos := _, after := _, guard := _ }) (v := ?_) rfl (by kernel_rfl) (by kernel_rfl) (by decide) (by kernel_rfl) (by kernel_rfl) (Uni.Uni.run (by kernel_rfl) (by intro W' hS'; obtain ⟨hq1, hq2⟩ := bcell hS'; go_simp; try with_reducible rfl)) ?_; (try simp only [Act.put, List.setIfInBounds_toArray, List.set_cons_zero, List.set_cons_succ]))
  (refine Uni.WU.take (i := 13) (oi := { dst := some 16, op := _, type := _, pos := _, after := _, guard := _ }) (v := ?_) rfl (by kernel_rfl) (by kernel_rfl) (by decide) (by kernel_rfl) (by kernel_rfl) (Uni.Uni.run (by kernel_rfl) (by intro W' hS'; obtain ⟨hq1, hq2⟩ := bcell hS'; go_simp; try with_reducible rfl)) ?_; (try simp only [Act.put, List.setIfInBounds_toArray, List.set_cons_zero, List.set_cons_succ]))
  (refine Uni.WU.take (i := 14) (oi := { dst := some 17, op := _, type := _, pos := _, after := _, guard := _ }) (v := ?_) rfl (by kernel_rfl) (by kernel_rfl) (by decide) (by kernel_rfl) (by kernel_rfl) (Uni.Uni.run (by kernel_rfl) (by intro W' hS'; obtain ⟨hq1, hq2⟩ := bcell hS'; go_simp; try with_reducible rfl)) ?_; (try simp only [Act.put, List.setIfInBounds_toArray, List.set_cons_zero, List.set_cons_succ]))
  (refine Uni.WU.take (i := 15) (oi := { dst := some 18, op := _, type := _, pos := _, after := _, guard := _ }) (v := ?_) rfl (by kernel_rfl) (by kernel_rfl) (by decide) (by kernel_rfl) (by kernel_rfl) (Uni.Uni.run (by kernel_rfl) (by intro W' hS'; obtain ⟨hq1, hq2⟩ := bcell hS'; go_simp; try with_reducible rfl)) ?_; (try simp only [Act.put, List.setIfInBounds_toArray, List.set_cons_zero, List.set_cons_succ]))
  (refine Uni.WU.take (i := 16) (oi := { dst := some 19, op := _, type := _, pos := _, after := _, guard := _ }) (v := ?_) rfl (by kernel_rfl) (by kernel_rfl) (by decide) (by kernel_rfl) (by kernel_rfl) (Uni.Uni.run (by kernel_rfl) (by intro W' hS'; obtain ⟨hq1, hq2⟩ := bcell hS'; go_simp; try with_reducible rfl)) ?_; (try simp only [Act.put, List.setIfInBounds_toArray, List.set_cons_zero, List.set_cons_succ]))
  (refine Uni.WU.take (i := 17) (oi := { dst := some 20, op := _, type := _, pos := _, after := _, guard := _ }) (v := ?_) rfl (by kernel_rfl) (by kernel_rfl) (by decide) (by kernel_rfl) (by kernel_rfl) (Uni.Uni.run (by kernel_rfl) (by intro W' hS'; obtain ⟨hq1, hq2⟩ := bcell hS'; go_simp; try with_reducible rfl)) ?_; (try simp only [Act.put, List.setIfInBounds_toArray, List.set_cons_zero, List.set_cons_succ]))
  (refine Uni.WU.take (i := 18) (oi := { dst := some 21, op := _, type := _, pos := _, after := _, guard := _ }) (v := ?_) rfl (by kernel_rfl) (by kernel_rfl) (by decide) (by kernel_rfl) (by kernel_rfl) (Uni.Uni.run (by kernel_rfl) (by intro W' hS'; obtain ⟨hq1, hq2⟩ := bcell hS'; go_simp; try with_reducible rfl)) ?_; (try simp only [Act.put, List.setIfInBounds_toArray, List.set_cons_zero, List.set_cons_succ]))
  (refine Uni.WU.take (i := 19) (oi := { dst := some 22, op := _, type := _, pos := _, after := _, guard := _ }) (v := ?_) rfl (by kernel_rfl) (by kernel_rfl) (by decide) (by kernel_rfl) (by kernel_rfl) (Uni.Uni.run (by kernel_rfl) (by intro W' hS'; obtain ⟨hq1, hq2⟩ := bcell hS'; go_simp; try with_reducible rfl)) ?_; (try simp only [Act.put, List.setIfInBounds_toArray, List.set_cons_zero, List.set_cons_succ]))
  (refine Uni.WU.take (i := 20) (oi := { dst := some 23, op := _, type := _, pos := _, after := _, guard := _ }) (v := ?_) rfl (by kernel_rfl) (by kernel_rfl) (by decide) (by kernel_rfl) (by kernel_rfl) (Uni.Uni.run (by kernel_rfl) (by intro W' hS'; obtain ⟨hq1, hq2⟩ := bcell hS'; go_simp; try with_reducible rfl)) ?_; (try simp only [Act.put, List.setIfInBounds_toArray, List.set_cons_zero, List.set_cons_succ]))
  (refine Uni.WU.take (i := 21) (oi := { dst := some 24, op := _, type := _, pos := _, after := _, guard := _ }) (v := ?_) rfl (by kernel_rfl) (by kernel_rfl) (by decide) (by kernel_rfl) (by kernel_rfl) (Uni.Uni.run (by kernel_rfl) (by intro W' hS'; obtain ⟨hq1, hq2⟩ := bcell hS'; go_simp; try with_reducible rfl)) ?_; (try simp only [Act.put, List.setIfInBounds_toArray, List.set_cons_zero, List.set_cons_succ]))
  (refine Uni.WU.take (i := 22) (oi := { dst := some 25, op := _, type := _, pos := _, after := _, guard := _ }) (v := ?_) rfl (by kernel_rfl) (by kernel_rfl) (by decide) (by kernel_rfl) (by kernel_rfl) (Uni.Uni.run (by kernel_rfl) (by intro W' hS'; obtain ⟨hq1, hq2⟩ := bcell hS'; go_simp; try with_reducible rfl)) ?_; (try simp only [Act.put, List.setIfInBounds_toArray, List.set_cons_zero, List.set_cons_succ]))
  (refine Uni.WU.take (i := 23) (oi := { dst := some 26, op := _, type := _, pos := _, after := _, guard := _ }) (v := ?_) rfl (by kernel_rfl) (by kernel_rfl) (by decide) (by kernel_rfl) (by kernel_rfl) (Uni.Uni.run (by kernel_rfl) (by intro W' hS'; obtain ⟨hq1, hq2⟩ := bcell hS'; go_simp; try with_reducible rfl)) ?_; (try simp only [Act.put, List.setIfInBounds_toArray, List.set_cons_zero, List.set_cons_succ]))
  (refine Uni.WU.take (i := 24) (oi := { dst := some 27, op := _, type := _, pos := _, after := _, guard := _ }) (v := ?_) rfl (by kernel_rfl) (by kernel_rfl) (by decide) (by kernel_rfl) (by kernel_rfl) (Uni.Uni.run (by kernel_rfl) (by intro W' hS'; obtain ⟨hq1, hq2⟩ := bcell hS'; go_simp; try with_reducible rfl)) ?_; (try simp only [Act.put, List.setIfInBounds_toArray, List.set_cons_zero, List.set_cons_succ]))
  (refine Uni.WU.take (i := 25) (oi := { dst := some 28, op := _, type := _, pos := _, after := _, guard := _ }) (v := ?_) rfl (by kernel_rfl) (by kernel_rfl) (by decide) (by kernel_rfl) (by kernel_rfl) (Uni.Uni.run (by kernel_rfl) (by intro W' hS'; obtain ⟨hq1, hq2⟩ := bcell hS'; go_simp; try with_reducible rfl)) ?_; (try simp only [Act.put, List.setIfInBounds_toArray, List.set_cons_zero, List.set_cons_succ]))
  (refine Uni.WU.take (i := 26) (oi := { dst := some 29, op := _, type := _, pos := _, after := _, guard := _ }) (v := ?_) rfl (by kernel_rfl) (by kernel_rfl) (by decide) (by kernel_rfl) (by kernel_rfl) (Uni.Uni.run (by kernel_rfl) (by intro W' hS'; obtain ⟨hq1, hq2⟩ := bcell hS'; go_simp; try with_reducible rfl)) ?_; (try simp only [Act.put, List.setIfInBounds_toArray, List.set_cons_zero, List.set_cons_succ]))
  (refine Uni.WU.take (i := 27) (oi := { dst := some 30, op := _, type := _, pos := _, after := _, guard := _ }) (v := ?_) rfl (by kernel_rfl) (by kernel_rfl) (by decide) (by kernel_rfl) (by kernel_rfl) (Uni.Uni.run (by kernel_rfl) (by intro W' hS'; obtain ⟨hq1, hq2⟩ := bcell hS'; go_simp; try with_reducible rfl)) ?_; (try simp only [Act.put, List.setIfInBounds_toArray, List.set_cons_zero, List.set_cons_succ]))
  (refine Uni.WU.take (i := 28) (oi := { dst := some 31, op := _, type := _, pos := _, after := _, guard := _ }) (v := ?_) rfl (by kernel_rfl) (by kernel_rfl) (by decide) (by kernel_rfl) (by kernel_rfl) (Uni.Uni.run (by kernel_rfl) (by intro W' hS'; obtain ⟨hq1, hq2⟩ := bcell hS'; go_simp; try with_reducible rfl)) ?_; (try simp only [Act.put, List.setIfInBounds_toArray, List.set_cons_zero, List.set_cons_succ]))
  (refine Uni.WU.take (i := 29) (oi := { dst := some 32, op := _, type := _, pos := _, after := _, guard := _ }) (v := ?_) rfl (by kernel_rfl) (by kernel_rfl) (by decide) (by kernel_rfl) (by kernel_rfl) (Uni.Uni.run (by kernel_rfl) (by intro W' hS'; obtain ⟨hq1, hq2⟩ := bcell hS'; go_simp; try with_reducible rfl)) ?_; (try simp only [Act.put, List.setIfInBounds_toArray, List.set_cons_zero, List.set_cons_succ]))
  (refine Uni.WU.take (i := 30) (oi := { dst := some 33, op := _, type := _, pos := _, after := _, guard := _ }) (v := ?_) rfl (by kernel_rfl) (by kernel_rfl) (by decide) (by kernel_rfl) (by kernel_rfl) (Uni.Uni.run (by kernel_rfl) (by intro W' hS'; obtain ⟨hq1, hq2⟩ := bcell hS'; go_simp; try with_reducible rfl)) ?_; (try simp only [Act.put, List.setIfInBounds_toArray, List.set_cons_zero, List.set_cons_succ]))
  (refine Uni.WU.take (i := 31) (oi := { dst := some 34, op := _, type := _, pos := _, after := _, guard := _ }) (v := ?_) rfl (by kernel_rfl) (by kernel_rfl) (by decide) (by kernel_rfl) (by kernel_rfl) (Uni.Uni.run (by kernel_rfl) (by intro W' hS'; obtain ⟨hq1, hq2⟩ := bcell hS'; go_simp; try with_reducible rfl)) ?_; (try simp only [Act.put, List.setIfInBounds_toArray, List.set_cons_zero, List.set_cons_succ]))
  (refine Uni.WU.take (i := 32) (oi := { dst := some 35, op := _, type := _, pos := _, after := _, guard := _ }) (v := ?_) rfl (by kernel_rfl) (by kernel_rfl) (by decide) (by kernel_rfl) (by kernel_rfl) (Uni.Uni.run (by kernel_rfl) (by intro W' hS'; have hcw := hcv.out W' hS'; go_simp; try with_reducible rfl)) ?_; (try simp only [Act.put, List.setIfInBounds_toArray, List.set_cons_zero, List.set_cons_succ]))
  (refine Uni.WU.take (i := 33) (oi := { dst := some 36, op := _, type := _, pos := _, after := _, guard := _ }) (v := ?_) rfl (by kernel_rfl) (by kernel_rfl) (by decide) (by kernel_rfl) (by kernel_rfl) (Uni.Uni.run (by kernel_rfl) (by intro W' hS'; obtain ⟨hq1, hq2⟩ := bcell hS'; go_simp; try with_reducible rfl)) ?_; (try simp only [Act.put, List.setIfInBounds_toArray, List.set_cons_zero, List.set_cons_succ]))
  refine Uni.WU.last (o := { dst := none, op := _, type := _, pos := _, after := _, guard := _ }) rfl rfl (by kernel_rfl) (by kernel_rfl) (fun wx hS => ?_)
  refine wp_store_fr (.tmp 2) (.tmp 36) rfl (k := 0) (⟨natR r0.v, natR r1.v, natR r2.v, r3.v.i, r4.v.i, r5.v.i, r6.v.i, ⟨r7.v.b.toArray⟩⟩ : Fr) rfl rfl (HO.out.ext hS) rfl fun w9 hown9 hchg9 => ?_
  have HB9 := Lib.hid (ext_under HB0.out (Nat.le_refl _) hS)
  have HB : Hid (Below w.heap.size w w9) := HB9.out.trans (hchg9.below HB9.out.size fun i hi hs => by omega)
  have hs := hown9.sl Fr.cells_len
  obtain ⟨g2, off2, hA2, _, k0, k1, k2, k3, k4, k5, k6, k7⟩ := FrSl.at_ hs (k := 0) rfl
  injection hA2 with hA2
  injection hA2 with h1 h2
  subst h1 h2
  simp only [Nat.zero_mul, Nat.add_zero, Nat.zero_add] at k0 k1 k2 k3 k4 k5 k6 k7
  clear hown9 hchg9 hS hs y00 y01 y02 y03 y04 y10 y11 y12 y13 y14 y20 y21 y22 y23 y24 y31 y41 y51 y61 y73
  go_wp2
  exact bodyPost_ret (v := (⟨natR r0.v, natR r1.v, natR r2.v, r3.v.i, r4.v.i, r5.v.i, r6.v.i, ⟨r7.v.b.toArray⟩⟩ : Fr).agg) (by simp [results, Try.results79, go_sem, k0, k1, k2, k3, k4, k5, k6, k7, Fr.agg]) rfl ⟨rfl, HB.out⟩
end Go.Proofs.Ytoneechcclndaaa.FForm
