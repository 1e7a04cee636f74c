/- edit: the loom in memory: insert, move. -/
import Derived.Test.YtiljpbncfofnhaaEdF
import Derived.Outline
import Derived.BigQuiet
import Derived.Deep.QuietTactic
import Derived.Deep.RegionWith
import Derived.Deep.RegionHeld3
import Derived.Deep.DrawnRows
import Derived.Deep.LoopGhost
import Derived.Deep.DeepCutAuto
import Derived.Laws.EntriesVeiled
import Derived.Deep.RegionLaw
import Derived.BigQuiet
namespace Go.Proofs.Ytiljpbncfofnhaa.EdF
open Go.RowKit Go.ChangeShapes Go.WideShapes Go.ChangeAt
set_option linter.unusedVariables false
set_option linter.unusedSimpArgs false
attribute [local go_sem ↓] Go.wp_at_zero Go.wp_at_succ
open MayA FragA FragB EdC

theorem fr_lit (w : World) (f : Fr) : Sl (w.alloc (.cells #[.int .i64 f.node, .int .i64 f.part, .int .i64 f.depth, .int .i64 f.x, .int .i64 f.y, .int .i64 f.w, .int .i64 f.h, .string f.text] 67)) (w.alloc (.cells #[.int .i64 f.node, .int .i64 f.part, .int .i64 f.depth, .int .i64 f.x, .int .i64 f.y, .int .i64 f.w, .int .i64 f.h, .string f.text] 67)).heap.size 8 Fr.cells (some ⟨w.heap.size, 0, none⟩) [f] :=
  fun _ => ⟨w.heap.size, 0, rfl, by simp, fun k x hx j v hv => by
    rcases k with _ | k
    · simp at hx; subst hx
      rw [show (⟨w.heap.size, 0 + 0 * 8 + j, none⟩ : Addr) = ⟨w.heap.size, j, none⟩ from by simp, (Blk.new w _ _).cell j]
      simpa [Fr.cells] using hv
    · simp at hx⟩
section
variable {w0 w : World} {g : Nat} {A : Option Addr} {n cap : Nat} {l : List Fr} {k : Nat} {out : List Fr}
set_option maxRecDepth 100000 in
set_option maxHeartbeats 2000000 in
theorem insert_any (h : LoomIn w0 w g A n cap l k out) (e : Ed) (hout : out.length ≤ 100000000) :
    Calls Try.prog 97 #[.pointer (some ⟨g, 0, none⟩), e.agg] w fun r w' => r = .returned (.bool true) ∧ LoomIn w0 w' g A n cap l k (out ++ [e.f]) ∧ Kept w w' := by
  obtain ⟨A2, n2, c2, v, h⟩ := h
  obtain ⟨i0, hi0, hz, hz1, hz2⟩ := info_parts frInfo
  obtain ⟨A3, n3, c3, rfl, _, _, _, _⟩ := h.own.form
  have h1 := h.ext (below_a w (.cells #[.int .u8 e.kind, .int .i64 e.n, .int .i64 e.node, .int .i64 e.part, .int .i64 e.f.node, .int .i64 e.f.part, .int .i64 e.f.depth, .int .i64 e.f.x, .int .i64 e.f.y, .int .i64 e.f.w, .int .i64 e.f.h, .string e.f.text] 69))
  obtain ⟨c0, c1, c2', c3', c4, c5, c6, c7, c8, c9, c10, c11⟩ := box_cells (box_blk w e)
  have a1 : Hid (out.length + [e.f].length ≤ maxLen) := by rw [Hid]; simp [maxLen]; omega
  have a2 : Hid ((out.length + [e.f].length) * 72 ≤ 140737488355328) := by rw [Hid]; simp; omega
  clear h
  unfold Ed.agg
  go_enter Try.func97, Try.ntmps97
  go_upto_region 1 with fail
  have HK := Lib.hid (Kept.of_ext (below_a w (.cells #[.int .u8 e.kind, .int .i64 e.n, .int .i64 e.node, .int .i64 e.part, .int .i64 e.f.node, .int .i64 e.f.part, .int .i64 e.f.depth, .int .i64 e.f.x, .int .i64 e.f.y, .int .i64 e.f.w, .int .i64 e.f.h, .string e.f.text] 69)))
  generalize w.alloc (.cells #[.int .u8 e.kind, .int .i64 e.n, .int .i64 e.node, .int .i64 e.part, .int .i64 e.f.node, .int .i64 e.f.part, .int .i64 e.f.depth, .int .i64 e.f.x, .int .i64 e.f.y, .int .i64 e.f.w, .int .i64 e.f.h, .string e.f.text] 69) = w1 at *
  generalize w.heap.size = gb at *
  have HO3 : Hid (OwnA ((w1.alloc (.cells #[.int .i64 e.f.node, .int .i64 e.f.part, .int .i64 e.f.depth, .int .i64 e.f.x, .int .i64 e.f.y, .int .i64 e.f.w, .int .i64 e.f.h, .string e.f.text] 67)).drew) 67 8 Fr.cells (.slice A3 n3 c3) out) := (h1.own.ext (below_a _ _)).drew
  have HL3 : Hid (Sl ((w1.alloc (.cells #[.int .i64 e.f.node, .int .i64 e.f.part, .int .i64 e.f.depth, .int .i64 e.f.x, .int .i64 e.f.y, .int .i64 e.f.w, .int .i64 e.f.h, .string e.f.text] 67)).drew) (w1.alloc (.cells #[.int .i64 e.f.node, .int .i64 e.f.part, .int .i64 e.f.depth, .int .i64 e.f.x, .int .i64 e.f.y, .int .i64 e.f.w, .int .i64 e.f.h, .string e.f.text] 67)).heap.size 8 Fr.cells (some ⟨w1.heap.size, 0, none⟩) [e.f]) := fr_lit w1 e.f
  have HB3 : Hid (Blk ((w1.alloc (.cells #[.int .i64 e.f.node, .int .i64 e.f.part, .int .i64 e.f.depth, .int .i64 e.f.x, .int .i64 e.f.y, .int .i64 e.f.w, .int .i64 e.f.h, .string e.f.text] 67)).drew) g 118 #[.slice A n cap, .slice A2 n2 c2, .slice A3 n3 c3]) := (h1.blk.ext (below_a _ _)).drew
  have d2 : w1.cell? ⟨g, 2, none⟩ = some (.slice A3 n3 c3) := h1.blk.cell 2
  have H1 := Lib.hid h1
  have hgl := h1.blk.lt
  clear h1
  go_region_law ((refine step_append_a _ rfl _ _ _ rfl 67 i0 _ 8 72 Try.underlying59 hi0 hz hz1 hz2 rfl (by decide) Fr.cells_len Fr.cells_one (.slice A3 n3 c3) out (by rfl) HO3.out _ (some ⟨w1.heap.size, 0, none⟩) [e.f] 1 1 (by rfl) rfl HL3.out a1.out a2.out ?_; intro v' w3 hown hchg hat; obtain ⟨A4, n4, c4, rfl, _, _, _, _⟩ := hown.form; have hb4 := HB3.out.chg hchg (fun e => HO3.out.apart HB3.out (by decide) e); have m2 : w3.cell? ⟨g, 2, none⟩ = some (.slice A3 n3 c3) := hb4.cell 2; have q2 := hb4.free 2; have HP := Lib.hid (H1.out.put (below_a w1 (.cells #[.int .i64 e.f.node, .int .i64 e.f.part, .int .i64 e.f.depth, .int .i64 e.f.x, .int .i64 e.f.y, .int .i64 e.f.w, .int .i64 e.f.h, .string e.f.text] 67)).drew hown hchg hat); have HK2 := Lib.hid (H1.out.put_kept (.slice A4 n4 c4) (below_a w1 (.cells #[.int .i64 e.f.node, .int .i64 e.f.part, .int .i64 e.f.depth, .int .i64 e.f.x, .int .i64 e.f.y, .int .i64 e.f.w, .int .i64 e.f.h, .string e.f.text] 67)).drew hchg); clear hown hchg hat hb4))
  all_goals (
    go_wp2
    go_ret
    exact ⟨rfl, ⟨_, _, _, _, HP.out⟩, HK.out.trans HK2.out⟩)
set_option maxRecDepth 100000 in
set_option maxHeartbeats 4000000 in
theorem move_yes (h : LoomIn w0 w g A n cap l k out) (hA : FrSl w0 w0.heap.size A l) (hn : n = l.length) (h63 : l.length ≤ 100000000) (e : Ed) (i : Nat) (f : Fr) (hi : findFrom e.node e.part l 0 = (i : Int)) (hf : l[i]? = some f) (hout : out.length ≤ 100000000) :
    Calls Try.prog 98 #[.pointer (some ⟨g, 0, none⟩), e.agg] w fun r w' => r = .returned (.bool true) ∧ LoomIn w0 w' g A n cap l k (out ++ [f]) ∧ Kept w w' := by
  subst hn
  obtain ⟨A2, n2, c2, v, h⟩ := h
  obtain ⟨i0, hi0, hz, hz1, hz2⟩ := info_parts frInfo
  obtain ⟨A3, n3, c3, rfl, _, _, _, _⟩ := h.own.form
  have h1 := h.ext (below_a w (.cells #[.int .u8 e.kind, .int .i64 e.n, .int .i64 e.node, .int .i64 e.part, .int .i64 e.f.node, .int .i64 e.f.part, .int .i64 e.f.depth, .int .i64 e.f.x, .int .i64 e.f.y, .int .i64 e.f.w, .int .i64 e.f.h, .string e.f.text] 69))
  obtain ⟨c0, c1, c2', c3', c4, c5, c6, c7, c8, c9, c10, c11⟩ := box_cells (box_blk w e)
  have a1 : Hid (out.length + [f].length ≤ maxLen) := by rw [Hid]; simp [maxLen]; omega
  have a2 : Hid ((out.length + [f].length) * 72 ≤ 140737488355328) := by rw [Hid]; simp; omega
  have hil := (List.getElem?_eq_some_iff.1 hf).1
  have HF := Lib.hid hf
  have HA := Lib.hid hA
  have HI := Lib.hid hi
  have hlen : Hid (l.length ≤ maxLen) := by rw [Hid]; simp [maxLen]; omega
  clear h hf hA hi c0 c1 c4 c5 c6 c7 c8 c9 c10 c11
  unfold Ed.agg
  go_enter Try.func98, Try.ntmps98
  go_upto_region 1 with fail
  have hgb : w.heap.size < (w.alloc (.cells #[.int .u8 e.kind, .int .i64 e.n, .int .i64 e.node, .int .i64 e.part, .int .i64 e.f.node, .int .i64 e.f.part, .int .i64 e.f.depth, .int .i64 e.f.x, .int .i64 e.f.y, .int .i64 e.f.w, .int .i64 e.f.h, .string e.f.text] 69)).heap.size := by simp
  have HK := Lib.hid (Kept.of_ext (below_a w (.cells #[.int .u8 e.kind, .int .i64 e.n, .int .i64 e.node, .int .i64 e.part, .int .i64 e.f.node, .int .i64 e.f.part, .int .i64 e.f.depth, .int .i64 e.f.x, .int .i64 e.f.y, .int .i64 e.f.w, .int .i64 e.f.h, .string e.f.text] 69)))
  generalize w.alloc (.cells #[.int .u8 e.kind, .int .i64 e.n, .int .i64 e.node, .int .i64 e.part, .int .i64 e.f.node, .int .i64 e.f.part, .int .i64 e.f.depth, .int .i64 e.f.x, .int .i64 e.f.y, .int .i64 e.f.w, .int .i64 e.f.h, .string e.f.text] 69) = w1 at *
  generalize w.heap.size = gb at *
  have d0 : w1.cell? ⟨g, 0, none⟩ = some (.slice A l.length cap) := h1.blk.cell 0
  have H1 := Lib.hid h1
  have hgl1 := h1.blk.lt
  clear h1
  have HFi := fun W (hW : Below w1.heap.size w1 W) => Lib.hid (find_any l A cap e.node e.part W (HA.out.below' (H1.out.be.trans (hW.mono H1.out.be.size)) (Nat.le_refl _) |>.more (Nat.le_trans H1.out.be.size hW.size)) hlen.out)
  rw [HI.out] at HFi
  refine Uni.region (last := 10) (S := fun w' => Below w1.heap.size w1 w') (by kernel_rfl) ((Below.refl _ _).drew) ?_
  try simp only [Act.put, List.setIfInBounds_toArray, List.set_cons_zero, List.set_cons_succ]
  (refine Uni.WU.take (i := 0) (oi := { dst := some 6, op := _, type := _, pos := _, after := _, guard := _ }) (v := ?_) rfl (by kernel_rfl) (by kernel_rfl) (by decide) (by kernel_rfl) (by kernel_rfl) (Uni.Uni.run (by kernel_rfl) (by intro W' hS'; obtain ⟨hq1, hq2⟩ := bcellD hS'; go_simp; try with_reducible rfl)) ?_; (try simp only [Act.put, List.setIfInBounds_toArray, List.set_cons_zero, List.set_cons_succ]))
  (refine Uni.WU.take (i := 1) (oi := { dst := some 7, op := _, type := _, pos := _, after := _, guard := _ }) (v := ?_) rfl (by kernel_rfl) (by kernel_rfl) (by decide) (by kernel_rfl) (by kernel_rfl) (Uni.Uni.run (by kernel_rfl) (by intro W' hS'; obtain ⟨hq1, hq2⟩ := bcellD hS'; go_simp; try with_reducible rfl)) ?_; (try simp only [Act.put, List.setIfInBounds_toArray, List.set_cons_zero, List.set_cons_succ]))
  (refine Uni.WU.take (i := 2) (oi := { dst := some 8, op := _, type := _, pos := _, after := _, guard := _ }) (v := ?_) rfl (by kernel_rfl) (by kernel_rfl) (by decide) (by kernel_rfl) (by kernel_rfl) (Uni.Uni.run (by kernel_rfl) (by intro W' hS'; obtain ⟨hq1, hq2⟩ := bcellD hS'; go_simp; try with_reducible rfl)) ?_; (try simp only [Act.put, List.setIfInBounds_toArray, List.set_cons_zero, List.set_cons_succ]))
  (refine Uni.WU.take (i := 3) (oi := { dst := some 9, op := _, type := _, pos := _, after := _, guard := _ }) (v := ?_) rfl (by kernel_rfl) (by kernel_rfl) (by decide) (by kernel_rfl) (by kernel_rfl) (Uni.Uni.run (by kernel_rfl) (by intro W' hS'; obtain ⟨hq1, hq2⟩ := bcellD hS'; go_simp; try with_reducible rfl)) ?_; (try simp only [Act.put, List.setIfInBounds_toArray, List.set_cons_zero, List.set_cons_succ]))
  (refine Uni.WU.take (i := 4) (oi := { dst := some 10, op := _, type := _, pos := _, after := _, guard := _ }) (v := ?_) rfl (by kernel_rfl) (by kernel_rfl) (by decide) (by kernel_rfl) (by kernel_rfl) (Uni.Uni.run (by kernel_rfl) (by intro W' hS'; obtain ⟨hq1, hq2⟩ := bcellD hS'; go_simp; try with_reducible rfl)) ?_; (try simp only [Act.put, List.setIfInBounds_toArray, List.set_cons_zero, List.set_cons_succ]))
  (refine Uni.WU.take (i := 5) (oi := { dst := some 11, op := _, type := _, pos := _, after := _, guard := _ }) (v := ?_) rfl (by kernel_rfl) (by kernel_rfl) (by decide) (by kernel_rfl) (by kernel_rfl) (Uni.Uni.run (by kernel_rfl) (by intro W' hS'; obtain ⟨hq1, hq2⟩ := bcellD hS'; go_simp; try with_reducible rfl)) ?_; (try simp only [Act.put, List.setIfInBounds_toArray, List.set_cons_zero, List.set_cons_succ]))
  (refine Uni.WU.take (i := 6) (oi := { dst := some 12, op := _, type := _, pos := _, after := _, guard := _ }) (v := ?_) rfl (by kernel_rfl) (by kernel_rfl) (by decide) (by kernel_rfl) (by kernel_rfl) (Uni.Uni.run (by kernel_rfl) (by intro W' hS'; obtain ⟨hq1, hq2⟩ := bcellD hS'; go_simp; try with_reducible rfl)) ?_; (try simp only [Act.put, List.setIfInBounds_toArray, List.set_cons_zero, List.set_cons_succ]))
  (refine Uni.WU.take (i := 7) (oi := { dst := some 13, op := _, type := _, pos := _, after := _, guard := _ }) (v := ?_) rfl (by kernel_rfl) (by kernel_rfl) (by decide) (by kernel_rfl) (by kernel_rfl) (Uni.Uni.run (by kernel_rfl) (by intro W' hS'; obtain ⟨hq1, hq2⟩ := bcellD hS'; go_simp; try with_reducible rfl)) ?_; (try simp only [Act.put, List.setIfInBounds_toArray, List.set_cons_zero, List.set_cons_succ]))
  (refine Uni.WU.take (i := 8) (oi := { dst := some 14, op := _, type := _, pos := _, after := _, guard := _ }) (v := _) rfl (by kernel_rfl) (by kernel_rfl) (by decide) (by kernel_rfl) (by kernel_rfl) (Uni.Uni.call (by kernel_rfl) (by intro W' hS'; go_simp; try with_reducible rfl) (fun W' hS' => ((HFi W' hS').out).mono fun e w' h => ⟨h.1, ext_under hS' (Nat.le_refl _) h.2⟩)) ?_; (try simp only [Act.put, List.setIfInBounds_toArray, List.set_cons_zero, List.set_cons_succ]))
  (refine Uni.WU.take (i := 9) (oi := { dst := some 5, op := _, type := _, pos := _, after := _, guard := _ }) (v := ?_) rfl (by kernel_rfl) (by kernel_rfl) (by decide) (by kernel_rfl) (by kernel_rfl) (Uni.Uni.run (by kernel_rfl) (by intro W' hS'; obtain ⟨hq1, hq2⟩ := bcellD hS'; go_simp; try with_reducible rfl)) ?_; (try simp only [Act.put, List.setIfInBounds_toArray, List.set_cons_zero, List.set_cons_succ]))
  refine Uni.WU.done (by kernel_rfl) (fun w2 hB2 => ?_) _
  have HK2 := Lib.hid (Kept.of_ext hB2)
  have H2 := Lib.hid (H1.out.ext hB2)
  clear hB2 c2' c3' d0 HFi
  obtain ⟨vb, vo, rfl, hvb, y0, y1, y2, y3, y4, y5, y6, y7⟩ := FrSl.at_ (HA.out.below H2.out.be) HF.out
  have e0 : w2.cell? ⟨g, 0, none⟩ = some (.slice (some ⟨vb, vo, none⟩) l.length cap) := H2.out.blk.cell 0
  have e2 : w2.cell? ⟨g, 2, none⟩ = some (.slice A3 n3 c3) := H2.out.blk.cell 2
  have b1 : (0 : Int) ≤ (i : Int) := Int.natCast_nonneg _
  have b2 : (i : Int) < (l.length : Int) := by omega
  have hgl := H2.out.blk.lt
  have HO3 : Hid (OwnA ((w2.alloc (.cells #[.int .i64 f.node, .int .i64 f.part, .int .i64 f.depth, .int .i64 f.x, .int .i64 f.y, .int .i64 f.w, .int .i64 f.h, .string f.text] 67)).drew) 67 8 Fr.cells (.slice A3 n3 c3) out) := (H2.out.own.ext (below_a _ _)).drew
  have HL3 : Hid (Sl ((w2.alloc (.cells #[.int .i64 f.node, .int .i64 f.part, .int .i64 f.depth, .int .i64 f.x, .int .i64 f.y, .int .i64 f.w, .int .i64 f.h, .string f.text] 67)).drew) (w2.alloc (.cells #[.int .i64 f.node, .int .i64 f.part, .int .i64 f.depth, .int .i64 f.x, .int .i64 f.y, .int .i64 f.w, .int .i64 f.h, .string f.text] 67)).heap.size 8 Fr.cells (some ⟨w2.heap.size, 0, none⟩) [f]) := fr_lit w2 f
  have HB3 : Hid (Blk ((w2.alloc (.cells #[.int .i64 f.node, .int .i64 f.part, .int .i64 f.depth, .int .i64 f.x, .int .i64 f.y, .int .i64 f.w, .int .i64 f.h, .string f.text] 67)).drew) g 118 #[.slice (some ⟨vb, vo, none⟩) l.length cap, .slice A2 n2 c2, .slice A3 n3 c3]) := (H2.out.blk.ext (below_a _ _)).drew
  go_upto_region 4 with fail
  go_region_law ((refine step_append_a _ rfl _ _ _ rfl 67 i0 _ 8 72 Try.underlying59 hi0 hz hz1 hz2 rfl (by decide) Fr.cells_len Fr.cells_one (.slice A3 n3 c3) out (by rfl) HO3.out _ (some ⟨w2.heap.size, 0, none⟩) [f] 1 1 (by rfl) rfl HL3.out a1.out a2.out ?_; intro v' w3 hown hchg hat; obtain ⟨A4, n4, c4, rfl, _, _, _, _⟩ := hown.form; have hb4 := HB3.out.chg hchg (fun e => HO3.out.apart HB3.out (by decide) e); have m2 : w3.cell? ⟨g, 2, none⟩ = some (.slice A3 n3 c3) := hb4.cell 2; have q2 := hb4.free 2; have HP := Lib.hid (H2.out.put (below_a w2 (.cells #[.int .i64 f.node, .int .i64 f.part, .int .i64 f.depth, .int .i64 f.x, .int .i64 f.y, .int .i64 f.w, .int .i64 f.h, .string f.text] 67)).drew hown hchg hat); have HK3 := Lib.hid (H2.out.put_kept (.slice A4 n4 c4) (below_a w2 (.cells #[.int .i64 f.node, .int .i64 f.part, .int .i64 f.depth, .int .i64 f.x, .int .i64 f.y, .int .i64 f.w, .int .i64 f.h, .string f.text] 67)).drew hchg); clear hown hchg hat hb4))
  all_goals (
    go_wp2
    go_ret
    exact ⟨rfl, ⟨_, _, _, _, HP.out⟩, (HK.out.trans HK2.out).trans HK3.out⟩)
set_option maxRecDepth 100000 in
set_option maxHeartbeats 4000000 in
theorem move_no (h : LoomIn w0 w g A n cap l k out) (hA : FrSl w0 w0.heap.size A l) (hn : n = l.length) (h63 : l.length ≤ 100000000) (e : Ed) (hi : findFrom e.node e.part l 0 = -1) :
    Calls Try.prog 98 #[.pointer (some ⟨g, 0, none⟩), e.agg] w fun r w' => r = .returned (.bool false) ∧ Below w0.heap.size w0 w' ∧ Kept w w' := by
  subst hn
  obtain ⟨A2, n2, c2, v, h⟩ := h
  have h1 := h.ext (below_a w (.cells #[.int .u8 e.kind, .int .i64 e.n, .int .i64 e.node, .int .i64 e.part, .int .i64 e.f.node, .int .i64 e.f.part, .int .i64 e.f.depth, .int .i64 e.f.x, .int .i64 e.f.y, .int .i64 e.f.w, .int .i64 e.f.h, .string e.f.text] 69))
  obtain ⟨c0, c1, c2', c3', c4, c5, c6, c7, c8, c9, c10, c11⟩ := box_cells (box_blk w e)
  have HA := Lib.hid hA
  have HI := Lib.hid hi
  have hlen : Hid (l.length ≤ maxLen) := by rw [Hid]; simp [maxLen]; omega
  clear h hA hi c0 c1 c4 c5 c6 c7 c8 c9 c10 c11
  unfold Ed.agg
  go_enter Try.func98, Try.ntmps98
  go_upto_region 1 with fail
  have hgb : w.heap.size < (w.alloc (.cells #[.int .u8 e.kind, .int .i64 e.n, .int .i64 e.node, .int .i64 e.part, .int .i64 e.f.node, .int .i64 e.f.part, .int .i64 e.f.depth, .int .i64 e.f.x, .int .i64 e.f.y, .int .i64 e.f.w, .int .i64 e.f.h, .string e.f.text] 69)).heap.size := by simp
  have HK := Lib.hid (Kept.of_ext (below_a w (.cells #[.int .u8 e.kind, .int .i64 e.n, .int .i64 e.node, .int .i64 e.part, .int .i64 e.f.node, .int .i64 e.f.part, .int .i64 e.f.depth, .int .i64 e.f.x, .int .i64 e.f.y, .int .i64 e.f.w, .int .i64 e.f.h, .string e.f.text] 69)))
  generalize w.alloc (.cells #[.int .u8 e.kind, .int .i64 e.n, .int .i64 e.node, .int .i64 e.part, .int .i64 e.f.node, .int .i64 e.f.part, .int .i64 e.f.depth, .int .i64 e.f.x, .int .i64 e.f.y, .int .i64 e.f.w, .int .i64 e.f.h, .string e.f.text] 69) = w1 at *
  generalize w.heap.size = gb at *
  have d0 : w1.cell? ⟨g, 0, none⟩ = some (.slice A l.length cap) := h1.blk.cell 0
  have H1 := Lib.hid h1
  have hgl1 := h1.blk.lt
  clear h1
  have HFi := fun W (hW : Below w1.heap.size w1 W) => Lib.hid (find_any l A cap e.node e.part W (HA.out.below' (H1.out.be.trans (hW.mono H1.out.be.size)) (Nat.le_refl _) |>.more (Nat.le_trans H1.out.be.size hW.size)) hlen.out)
  rw [HI.out] at HFi
  refine Uni.region (last := 10) (S := fun w' => Below w1.heap.size w1 w') (by kernel_rfl) ((Below.refl _ _).drew) ?_
  try simp only [Act.put, List.setIfInBounds_toArray, List.set_cons_zero, List.set_cons_succ]
  (refine Uni.WU.take (i := 0) (oi := { dst := some 6, op := _, type := _, pos := _, after := _, guard := _ }) (v := ?_) rfl (by kernel_rfl) (by kernel_rfl) (by decide) (by kernel_rfl) (by kernel_rfl) (Uni.Uni.run (by kernel_rfl) (by intro W' hS'; obtain ⟨hq1, hq2⟩ := bcellD hS'; go_simp; try with_reducible rfl)) ?_; (try simp only [Act.put, List.setIfInBounds_toArray, List.set_cons_zero, List.set_cons_succ]))
  (refine Uni.WU.take (i := 1) (oi := { dst := some 7, op := _, type := _, pos := _, after := _, guard := _ }) (v := ?_) rfl (by kernel_rfl) (by kernel_rfl) (by decide) (by kernel_rfl) (by kernel_rfl) (Uni.Uni.run (by kernel_rfl) (by intro W' hS'; obtain ⟨hq1, hq2⟩ := bcellD hS'; go_simp; try with_reducible rfl)) ?_; (try simp only [Act.put, List.setIfInBounds_toArray, List.set_cons_zero, List.set_cons_succ]))
  (refine Uni.WU.take (i := 2) (oi := { dst := some 8, op := _, type := _, pos := _, after := _, guard := _ }) (v := ?_) rfl (by kernel_rfl) (by kernel_rfl) (by decide) (by kernel_rfl) (by kernel_rfl) (Uni.Uni.run (by kernel_rfl) (by intro W' hS'; obtain ⟨hq1, hq2⟩ := bcellD hS'; go_simp; try with_reducible rfl)) ?_; (try simp only [Act.put, List.setIfInBounds_toArray, List.set_cons_zero, List.set_cons_succ]))
  (refine Uni.WU.take (i := 3) (oi := { dst := some 9, op := _, type := _, pos := _, after := _, guard := _ }) (v := ?_) rfl (by kernel_rfl) (by kernel_rfl) (by decide) (by kernel_rfl) (by kernel_rfl) (Uni.Uni.run (by kernel_rfl) (by intro W' hS'; obtain ⟨hq1, hq2⟩ := bcellD hS'; go_simp; try with_reducible rfl)) ?_; (try simp only [Act.put, List.setIfInBounds_toArray, List.set_cons_zero, List.set_cons_succ]))
  (refine Uni.WU.take (i := 4) (oi := { dst := some 10, op := _, type := _, pos := _, after := _, guard := _ }) (v := ?_) rfl (by kernel_rfl) (by kernel_rfl) (by decide) (by kernel_rfl) (by kernel_rfl) (Uni.Uni.run (by kernel_rfl) (by intro W' hS'; obtain ⟨hq1, hq2⟩ := bcellD hS'; go_simp; try with_reducible rfl)) ?_; (try simp only [Act.put, List.setIfInBounds_toArray, List.set_cons_zero, List.set_cons_succ]))
  (refine Uni.WU.take (i := 5) (oi := { dst := some 11, op := _, type := _, pos := _, after := _, guard := _ }) (v := ?_) rfl (by kernel_rfl) (by kernel_rfl) (by decide) (by kernel_rfl) (by kernel_rfl) (Uni.Uni.run (by kernel_rfl) (by intro W' hS'; obtain ⟨hq1, hq2⟩ := bcellD hS'; go_simp; try with_reducible rfl)) ?_; (try simp only [Act.put, List.setIfInBounds_toArray, List.set_cons_zero, List.set_cons_succ]))
  (refine Uni.WU.take (i := 6) (oi := { dst := some 12, op := _, type := _, pos := _, after := _, guard := _ }) (v := ?_) rfl (by kernel_rfl) (by kernel_rfl) (by decide) (by kernel_rfl) (by kernel_rfl) (Uni.Uni.run (by kernel_rfl) (by intro W' hS'; obtain ⟨hq1, hq2⟩ := bcellD hS'; go_simp; try with_reducible rfl)) ?_; (try simp only [Act.put, List.setIfInBounds_toArray, List.set_cons_zero, List.set_cons_succ]))
  (refine Uni.WU.take (i := 7) (oi := { dst := some 13, op := _, type := _, pos := _, after := _, guard := _ }) (v := ?_) rfl (by kernel_rfl) (by kernel_rfl) (by decide) (by kernel_rfl) (by kernel_rfl) (Uni.Uni.run (by kernel_rfl) (by intro W' hS'; obtain ⟨hq1, hq2⟩ := bcellD hS'; go_simp; try with_reducible rfl)) ?_; (try simp only [Act.put, List.setIfInBounds_toArray, List.set_cons_zero, List.set_cons_succ]))
  (refine Uni.WU.take (i := 8) (oi := { dst := some 14, op := _, type := _, pos := _, after := _, guard := _ }) (v := _) rfl (by kernel_rfl) (by kernel_rfl) (by decide) (by kernel_rfl) (by kernel_rfl) (Uni.Uni.call (by kernel_rfl) (by intro W' hS'; go_simp; try with_reducible rfl) (fun W' hS' => ((HFi W' hS').out).mono fun e w' h => ⟨h.1, ext_under hS' (Nat.le_refl _) h.2⟩)) ?_; (try simp only [Act.put, List.setIfInBounds_toArray, List.set_cons_zero, List.set_cons_succ]))
  (refine Uni.WU.take (i := 9) (oi := { dst := some 5, op := _, type := _, pos := _, after := _, guard := _ }) (v := ?_) rfl (by kernel_rfl) (by kernel_rfl) (by decide) (by kernel_rfl) (by kernel_rfl) (Uni.Uni.run (by kernel_rfl) (by intro W' hS'; obtain ⟨hq1, hq2⟩ := bcellD hS'; go_simp; try with_reducible rfl)) ?_; (try simp only [Act.put, List.setIfInBounds_toArray, List.set_cons_zero, List.set_cons_succ]))
  refine Uni.WU.done (by kernel_rfl) (fun w2 hB2 => ?_) _
  have HK2 := Lib.hid (Kept.of_ext hB2)
  have H2 := Lib.hid (H1.out.ext hB2).be
  clear hB2 c2' c3' d0 HFi
  go_wp2
  go_ret
  exact ⟨rfl, H2.out, HK.out.trans HK2.out⟩
end
end Go.Proofs.Ytiljpbncfofnhaa.EdF
