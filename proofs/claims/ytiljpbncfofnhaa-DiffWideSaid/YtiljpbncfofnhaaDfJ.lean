/- diff: the document's Can, old. -/
import Derived.Test.YtiljpbncfofnhaaDfG
import Derived.Outline
import Derived.BigQuiet
import Derived.Deep.QuietTactic
import Derived.Deep.RegionWith
import Derived.Deep.RegionHeld3
import Derived.Deep.DrawnRows
import Derived.Deep.LoopGhost
import Derived.Deep.DeepCutAuto
import Derived.Laws.EntriesVeiled
import Derived.BigRegion
import Derived.BigQuiet
import Derived.Deep.RegionLaw
namespace Go.Proofs.Ytiljpbncfofnhaa.Dif
open Go.RowKit Go.ChangeShapes Go.WideShapes Go.ChangeAt
set_option linter.unusedVariables false
set_option linter.unusedSimpArgs false
attribute [local go_sem ↓] Go.wp_at_zero Go.wp_at_succ
open FragA FragB MayA Tree EdC EdB
set_option maxRecDepth 100000 in
set_option maxHeartbeats 4000000 in
theorem rcan_any (f g : Fr) (w : World) : Calls Try.prog 101 #[f.agg, g.agg] w fun e w' => e = .returned (.bool (canB f g)) ∧ Below w.heap.size w w' := by
  obtain ⟨b, hb⟩ : ∃ b, Hid (canB f g = b) := ⟨_, rfl⟩
  obtain ⟨pl, hpl⟩ : ∃ pl, Hid (samePlace f g = pl) := ⟨_, rfl⟩
  obtain ⟨x0, hx0⟩ : ∃ b, (f.depth == g.depth) = b := ⟨_, rfl⟩
  obtain ⟨x1, hx1⟩ : ∃ b, (f.x == g.x) = b := ⟨_, rfl⟩
  obtain ⟨x2, hx2⟩ : ∃ b, (f.y == g.y) = b := ⟨_, rfl⟩
  obtain ⟨x3, hx3⟩ : ∃ b, (f.w == g.w) = b := ⟨_, rfl⟩
  obtain ⟨x4, hx4⟩ : ∃ b, (f.h == g.h) = b := ⟨_, rfl⟩
  obtain ⟨y0, hy0⟩ : ∃ b, (f.node == g.node) = b := ⟨_, rfl⟩
  obtain ⟨y1, hy1⟩ : ∃ b, (f.part == g.part) = b := ⟨_, rfl⟩
  obtain ⟨t0, ht0⟩ : ∃ b, (f.text.toList == g.text.toList) = b := ⟨_, rfl⟩
  have hpl' : Hid ((x0 && (x1 && (x2 && (x3 && x4)))) = pl) := by rw [Hid, ← hpl.out, samePlace, hx0, hx1, hx2, hx3, hx4]
  have hb' : Hid (((y0 && y1) && (t0 || pl)) = b) := by rw [Hid, ← hb.out, canB_eq, hpl.out, hy0, hy1, ht0]
  rw [hb.out]
  clear hb hpl
  unfold Fr.agg
  go_enter Try.func101, Try.ntmps101
  have hBe : Hid (Below w.heap.size w ((w.alloc (.cells #[.int .i64 f.node, .int .i64 f.part, .int .i64 f.depth, .int .i64 f.x, .int .i64 f.y, .int .i64 f.w, .int .i64 f.h, .string f.text] 67)).alloc (.cells #[.int .i64 g.node, .int .i64 g.part, .int .i64 g.depth, .int .i64 g.x, .int .i64 g.y, .int .i64 g.w, .int .i64 g.h, .string g.text] 67))) := ((Below.refl _ _).alloc (Nat.le_refl _) _).alloc (by simp) _
  go_upto_region 1 with fail
  go_cut [5] (fun s5 wx => s5 = .bool pl ∧ (w.alloc (.cells #[.int .i64 f.node, .int .i64 f.part, .int .i64 f.depth, .int .i64 f.x, .int .i64 f.y, .int .i64 f.w, .int .i64 f.h, .string f.text] 67)).alloc (.cells #[.int .i64 g.node, .int .i64 g.part, .int .i64 g.depth, .int .i64 g.x, .int .i64 g.y, .int .i64 g.w, .int .i64 g.h, .string g.text] 67) = wx)
  case first =>
    have hcs : x0 = false ∨ (x0 = true ∧ (x1 = false ∨ (x1 = true ∧ (x2 = false ∨ (x2 = true ∧ (x3 = false ∨ (x3 = true ∧ (x4 = false ∨ x4 = true)))))))) := by
      cases x0 <;> cases x1 <;> cases x2 <;> cases x3 <;> cases x4 <;> simp
    rcases hcs with rfl | ⟨rfl, rfl | ⟨rfl, rfl | ⟨rfl, rfl | ⟨rfl, rfl | rfl⟩⟩⟩⟩
    all_goals (
      go_wp2
      go_meet
      exact ⟨by rw [← hpl'.out]; rfl, rfl⟩)
  case rest =>
    obtain ⟨rfl, rfl⟩ := hcut
    have hcs : y0 = false ∨ (y0 = true ∧ (y1 = false ∨ (y1 = true ∧ (t0 = true ∨ t0 = false)))) := by
      cases y0 <;> cases y1 <;> cases t0 <;> simp
    rcases hcs with rfl | ⟨rfl, rfl | ⟨rfl, rfl | rfl⟩⟩
    all_goals (
      go_wp2
      go_ret
      exact ⟨ret_bool (by rw [← hb'.out]; simp), hBe.out⟩)
/-- what the document's old tells -/
def oldZ (o : Option Nat) : Int := match o with
  | some i => (i : Int)
  | none => -1
set_option maxRecDepth 100000 in
set_option maxHeartbeats 4000000 in
theorem rold_any (a : List Fr) (A : Option Addr) (na ca : Nat) (q : Fr) (w : World) (ha : FrSl w w.heap.size A a) (hna : Hid (na = a.length)) (h63 : na ≤ 100000) :
    Calls Try.prog 80 #[.slice A na ca, q.agg] w fun e w' => e = .returned (.int .i64 (oldZ (fromL a q))) ∧ Below w.heap.size w w' := by
  have HA := Lib.hid ha
  have hB1 := Lib.hid (EdF.below_a w (.cells #[.int .i64 q.node, .int .i64 q.part, .int .i64 q.depth, .int .i64 q.x, .int .i64 q.y, .int .i64 q.w, .int .i64 q.h, .string q.text] 67))
  have HF := Lib.hid (rfind_any a A ca q.node q.part (w.alloc (.cells #[.int .i64 q.node, .int .i64 q.part, .int .i64 q.depth, .int .i64 q.x, .int .i64 q.y, .int .i64 q.w, .int .i64 q.h, .string q.text] 67)) (ha.ext hB1.out) (by rw [← hna.out]; unfold maxLen; omega))
  rw [← hna.out] at HF
  have HQ1 : Hid (Blk (w.alloc (.cells #[.int .i64 q.node, .int .i64 q.part, .int .i64 q.depth, .int .i64 q.x, .int .i64 q.y, .int .i64 q.w, .int .i64 q.h, .string q.text] 67)) w.heap.size 67 q.cells.toArray) := Blk.new w 67 q.cells.toArray
  have hl1 := Lib.hid (Sl.ext ha hB1.out)
  have hgb : w.heap.size < (w.alloc (.cells #[.int .i64 q.node, .int .i64 q.part, .int .i64 q.depth, .int .i64 q.x, .int .i64 q.y, .int .i64 q.w, .int .i64 q.h, .string q.text] 67)).heap.size := by simp
  clear ha
  unfold Fr.agg
  cases hk : keyAt a q with
  | none =>
    have hE := Lib.hid (fromL_none hk)
    have hneg : findFrom q.node q.part a 0 < 0 := by
      by_cases h : findFrom q.node q.part a 0 < 0
      · exact h
      · rw [keyAt, if_neg h] at hk; cases hk
    have hneg2 : decide (0 ≤ findFrom q.node q.part a 0) = false := decide_eq_false (by omega)
    generalize findFrom q.node q.part a 0 = z at *
    clear hk
    obtain ⟨x0, x1, x2, x3, x4, x5, x6, x7⟩ := EdC.fbox_cells HQ1.out
    go_enter Try.func80, Try.ntmps80
    go_upto_region 1 with fail
    generalize w.alloc (.cells #[.int .i64 q.node, .int .i64 q.part, .int .i64 q.depth, .int .i64 q.x, .int .i64 q.y, .int .i64 q.w, .int .i64 q.h, .string q.text] 67) = w1 at *
    go_wp2_with fail
    refine (HF.out).mono ?_; rintro e w' ⟨rfl, rfl⟩
    go_wp2_with fail
    refine Uni.region (last := 10) (S := fun w' => Below w1.heap.size w1 w') (by kernel_rfl) ((Below.refl _ _).drew) ?_
    try simp only [Act.put, List.setIfInBounds_toArray, List.set_cons_zero, List.set_cons_succ]
    (refine Uni.WU.take (i := 0) (oi := { dst := some 12, op := _, type := _, pos := _, after := _, guard := _ }) (v := ?_) rfl (by kernel_rfl) (by kernel_rfl) (by decide) (by kernel_rfl) (by kernel_rfl) (Uni.Uni.run (by kernel_rfl) (by intro W' hS'; obtain ⟨hq1, hq2⟩ := EdC.bcellD hS'; go_simp; try with_reducible rfl)) ?_; (try simp only [Act.put, List.setIfInBounds_toArray, List.set_cons_zero, List.set_cons_succ]))
    (refine Uni.WU.take (i := 1) (oi := { dst := some 13, op := _, type := _, pos := _, after := _, guard := _ }) (v := ?_) rfl (by kernel_rfl) (by kernel_rfl) (by decide) (by kernel_rfl) (by kernel_rfl) (Uni.Uni.run (by kernel_rfl) (by intro W' hS'; obtain ⟨hq1, hq2⟩ := EdC.bcellD hS'; go_simp; try with_reducible rfl)) ?_; (try simp only [Act.put, List.setIfInBounds_toArray, List.set_cons_zero, List.set_cons_succ]))
    (refine Uni.WU.take (i := 2) (oi := { dst := some 14, op := _, type := _, pos := _, after := _, guard := _ }) (v := ?_) rfl (by kernel_rfl) (by kernel_rfl) (by decide) (by kernel_rfl) (by kernel_rfl) (Uni.Uni.run (by kernel_rfl) (by intro W' hS'; obtain ⟨hq1, hq2⟩ := EdC.bcellD hS'; go_simp; try with_reducible rfl)) ?_; (try simp only [Act.put, List.setIfInBounds_toArray, List.set_cons_zero, List.set_cons_succ]))
    (refine Uni.WU.take (i := 3) (oi := { dst := some 15, op := _, type := _, pos := _, after := _, guard := _ }) (v := undef) rfl (by kernel_rfl) (by kernel_rfl) (by decide) (by kernel_rfl) (by kernel_rfl) (Uni.Uni.skip (by kernel_rfl)) ?_; (try simp only [Act.put, List.setIfInBounds_toArray, List.set_cons_zero, List.set_cons_succ]))
    (refine Uni.WU.take (i := 4) (oi := { dst := some 16, op := _, type := _, pos := _, after := _, guard := _ }) (v := undef) rfl (by kernel_rfl) (by kernel_rfl) (by decide) (by kernel_rfl) (by kernel_rfl) (Uni.Uni.skip (by kernel_rfl)) ?_; (try simp only [Act.put, List.setIfInBounds_toArray, List.set_cons_zero, List.set_cons_succ]))
    (refine Uni.WU.take (i := 5) (oi := { dst := some 17, op := _, type := _, pos := _, after := _, guard := _ }) (v := undef) rfl (by kernel_rfl) (by kernel_rfl) (by decide) (by kernel_rfl) (by kernel_rfl) (Uni.Uni.skip (by kernel_rfl)) ?_; (try simp only [Act.put, List.setIfInBounds_toArray, List.set_cons_zero, List.set_cons_succ]))
    (refine Uni.WU.take (i := 6) (oi := { dst := some 18, op := _, type := _, pos := _, after := _, guard := _ }) (v := undef) rfl (by kernel_rfl) (by kernel_rfl) (by decide) (by kernel_rfl) (by kernel_rfl) (Uni.Uni.skip (by kernel_rfl)) ?_; (try simp only [Act.put, List.setIfInBounds_toArray, List.set_cons_zero, List.set_cons_succ]))
    (refine Uni.WU.take (i := 7) (oi := { dst := some 19, op := _, type := _, pos := _, after := _, guard := _ }) (v := undef) rfl (by kernel_rfl) (by kernel_rfl) (by decide) (by kernel_rfl) (by kernel_rfl) (Uni.Uni.skip (by kernel_rfl)) ?_; (try simp only [Act.put, List.setIfInBounds_toArray, List.set_cons_zero, List.set_cons_succ]))
    (refine Uni.WU.take (i := 8) (oi := { dst := some 20, op := _, type := _, pos := _, after := _, guard := _ }) (v := undef) rfl (by kernel_rfl) (by kernel_rfl) (by decide) (by kernel_rfl) (by kernel_rfl) (Uni.Uni.skip (by kernel_rfl)) ?_; (try simp only [Act.put, List.setIfInBounds_toArray, List.set_cons_zero, List.set_cons_succ]))
    (refine Uni.WU.take (i := 9) (oi := { dst := some 21, op := _, type := _, pos := _, after := _, guard := _ }) (v := ?_) rfl (by kernel_rfl) (by kernel_rfl) (by decide) (by kernel_rfl) (by kernel_rfl) (Uni.Uni.run (by kernel_rfl) (by intro W' hS'; obtain ⟨hq1, hq2⟩ := EdC.bcellD hS'; go_simp; try with_reducible rfl)) ?_; (try simp only [Act.put, List.setIfInBounds_toArray, List.set_cons_zero, List.set_cons_succ]))
    refine Uni.WU.done (by kernel_rfl) (fun w5 hB5 => ?_) _
    have HB5 := Lib.hid (ext_under hB1.out (Nat.le_refl _) hB5)
    clear hB5
    go_wp2
    go_ret
    exact ⟨ret_int (by rw [hE.out]; rfl), HB5.out⟩
  | some i =>
    obtain ⟨f, hf, -, -⟩ := keyAt_lt hk
    have hil := (List.getElem?_eq_some_iff.1 hf).1
    have hE := Lib.hid (fromL_at hk hf)
    have hpos : findFrom q.node q.part a 0 = (i : Int) := by
      rw [keyAt] at hk
      split at hk
      · cases hk
      · injection hk with hk
        omega
    rw [hpos] at HF
    have hi1 : (0 : Int) ≤ (i : Int) := Int.natCast_nonneg _
    have hi2 : (i : Int) < (na : Int) := by rw [hna.out]; omega
    obtain ⟨ab, aoff, rfl, hab, z0, z1, z2, z3, z4, z5, z6, z7⟩ := FrSl.at_ hl1.out hf
    have HC : ∀ W, Hid (Calls Try.prog 101 #[f.agg, q.agg] W fun e w' => e = .returned (.bool (canB f q)) ∧ Below W.heap.size W w') := fun W => rcan_any f q W
    unfold Fr.agg at HC
    clear hk hpos hf hil
    obtain ⟨x0, x1, x2, x3, x4, x5, x6, x7⟩ := EdC.fbox_cells HQ1.out
    go_enter Try.func80, Try.ntmps80
    go_upto_region 1 with fail
    generalize w.alloc (.cells #[.int .i64 q.node, .int .i64 q.part, .int .i64 q.depth, .int .i64 q.x, .int .i64 q.y, .int .i64 q.w, .int .i64 q.h, .string q.text] 67) = w1 at *
    go_wp2_with fail
    refine (HF.out).mono ?_; rintro e w' ⟨rfl, rfl⟩
    go_wp2_with fail
    refine Uni.region (last := 10) (S := fun w' => Below w1.heap.size w1 w') (by kernel_rfl) ((Below.refl _ _).drew) ?_
    try simp only [Act.put, List.setIfInBounds_toArray, List.set_cons_zero, List.set_cons_succ]
    (refine Uni.WU.take (i := 0) (oi := { dst := some 12, op := _, type := _, pos := _, after := _, guard := _ }) (v := ?_) rfl (by kernel_rfl) (by kernel_rfl) (by decide) (by kernel_rfl) (by kernel_rfl) (Uni.Uni.run (by kernel_rfl) (by intro W' hS'; obtain ⟨hq1, hq2⟩ := EdC.bcellD hS'; go_simp; try with_reducible rfl)) ?_; (try simp only [Act.put, List.setIfInBounds_toArray, List.set_cons_zero, List.set_cons_succ]))
    (refine Uni.WU.take (i := 1) (oi := { dst := some 13, op := _, type := _, pos := _, after := _, guard := _ }) (v := ?_) rfl (by kernel_rfl) (by kernel_rfl) (by decide) (by kernel_rfl) (by kernel_rfl) (Uni.Uni.run (by kernel_rfl) (by intro W' hS'; obtain ⟨hq1, hq2⟩ := EdC.bcellD hS'; go_simp; try with_reducible rfl)) ?_; (try simp only [Act.put, List.setIfInBounds_toArray, List.set_cons_zero, List.set_cons_succ]))
    (refine Uni.WU.take (i := 2) (oi := { dst := some 14, op := _, type := _, pos := _, after := _, guard := _ }) (v := ?_) rfl (by kernel_rfl) (by kernel_rfl) (by decide) (by kernel_rfl) (by kernel_rfl) (Uni.Uni.run (by kernel_rfl) (by intro W' hS'; obtain ⟨hq1, hq2⟩ := EdC.bcellD hS'; go_simp; try with_reducible rfl)) ?_; (try simp only [Act.put, List.setIfInBounds_toArray, List.set_cons_zero, List.set_cons_succ]))
    (refine Uni.WU.take (i := 3) (oi := { dst := some 15, op := _, type := _, pos := _, after := _, guard := _ }) (v := ?_) rfl (by kernel_rfl) (by kernel_rfl) (by decide) (by kernel_rfl) (by kernel_rfl) (Uni.Uni.run (by kernel_rfl) (by intro W' hS'; obtain ⟨hq1, hq2⟩ := EdC.bcellD hS'; go_simp; try with_reducible rfl)) ?_; (try simp only [Act.put, List.setIfInBounds_toArray, List.set_cons_zero, List.set_cons_succ]))
    (refine Uni.WU.take (i := 4) (oi := { dst := some 16, op := _, type := _, pos := _, after := _, guard := _ }) (v := ?_) rfl (by kernel_rfl) (by kernel_rfl) (by decide) (by kernel_rfl) (by kernel_rfl) (Uni.Uni.run (by kernel_rfl) (by intro W' hS'; obtain ⟨hq1, hq2⟩ := EdC.bcellD hS'; go_simp; try with_reducible rfl)) ?_; (try simp only [Act.put, List.setIfInBounds_toArray, List.set_cons_zero, List.set_cons_succ]))
    (refine Uni.WU.take (i := 5) (oi := { dst := some 17, op := _, type := _, pos := _, after := _, guard := _ }) (v := ?_) rfl (by kernel_rfl) (by kernel_rfl) (by decide) (by kernel_rfl) (by kernel_rfl) (Uni.Uni.run (by kernel_rfl) (by intro W' hS'; obtain ⟨hq1, hq2⟩ := EdC.bcellD hS'; go_simp; try with_reducible rfl)) ?_; (try simp only [Act.put, List.setIfInBounds_toArray, List.set_cons_zero, List.set_cons_succ]))
    (refine Uni.WU.take (i := 6) (oi := { dst := some 18, op := _, type := _, pos := _, after := _, guard := _ }) (v := ?_) rfl (by kernel_rfl) (by kernel_rfl) (by decide) (by kernel_rfl) (by kernel_rfl) (Uni.Uni.run (by kernel_rfl) (by intro W' hS'; obtain ⟨hq1, hq2⟩ := EdC.bcellD hS'; go_simp; try with_reducible rfl)) ?_; (try simp only [Act.put, List.setIfInBounds_toArray, List.set_cons_zero, List.set_cons_succ]))
    (refine Uni.WU.take (i := 7) (oi := { dst := some 19, op := _, type := _, pos := _, after := _, guard := _ }) (v := ?_) rfl (by kernel_rfl) (by kernel_rfl) (by decide) (by kernel_rfl) (by kernel_rfl) (Uni.Uni.run (by kernel_rfl) (by intro W' hS'; obtain ⟨hq1, hq2⟩ := EdC.bcellD hS'; go_simp; try with_reducible rfl)) ?_; (try simp only [Act.put, List.setIfInBounds_toArray, List.set_cons_zero, List.set_cons_succ]))
    (refine Uni.WU.take (i := 8) (oi := { dst := some 20, op := _, type := _, pos := _, after := _, guard := _ }) (v := _) rfl (by kernel_rfl) (by kernel_rfl) (by decide) (by kernel_rfl) (by kernel_rfl) (Uni.Uni.call (by kernel_rfl) (by intro W' hS'; go_simp; try with_reducible rfl) (fun W' hS' => ((HC W').out).mono fun e w' h => ⟨h.1, ext_under hS' (Nat.le_refl _) h.2⟩)) ?_; (try simp only [Act.put, List.setIfInBounds_toArray, List.set_cons_zero, List.set_cons_succ]))
    (refine Uni.WU.take (i := 9) (oi := { dst := some 21, op := _, type := _, pos := _, after := _, guard := _ }) (v := ?_) rfl (by kernel_rfl) (by kernel_rfl) (by decide) (by kernel_rfl) (by kernel_rfl) (Uni.Uni.run (by kernel_rfl) (by intro W' hS'; obtain ⟨hq1, hq2⟩ := EdC.bcellD hS'; go_simp; try with_reducible rfl)) ?_; (try simp only [Act.put, List.setIfInBounds_toArray, List.set_cons_zero, List.set_cons_succ]))
    refine Uni.WU.done (by kernel_rfl) (fun w5 hB5 => ?_) _
    have HB5 := Lib.hid (ext_under hB1.out (Nat.le_refl _) hB5)
    clear hB5
    cases hc : canB f q with
    | true =>
      rw [hc] at hE
      go_wp2
      go_ret
      exact ⟨ret_int (by rw [hE.out]; rfl), HB5.out⟩
    | false =>
      rw [hc] at hE
      go_wp2
      go_ret
      exact ⟨ret_int (by rw [hE.out]; rfl), HB5.out⟩
end Go.Proofs.Ytiljpbncfofnhaa.Dif
