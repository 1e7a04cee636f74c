/- wire: the document's one, Put. -/
import Derived.Test.YtoneechcclndaaaRPutA
import Derived.BigRegion
import Derived.Deep.RegionLaw
import Derived.Outline
import Derived.BigQuiet
import Derived.Deep.QuietTactic
import Derived.Deep.RegionWith
import Derived.Deep.RegionHeld3
import Derived.Deep.DrawnRows
import Derived.Deep.LoopGhost
import Derived.Deep.DeepCutAuto
import Derived.Laws.EntriesVeiled
namespace Go.Proofs.Ytoneechcclndaaa.Wire
open Go.RowKit Go.ChangeShapes Go.WideShapes Go.ChangeAt
set_option linter.unusedVariables false
set_option linter.unusedSimpArgs false
attribute [local go_sem ↓] Go.wp_at_zero Go.wp_at_succ
open Go.Shelf Go.Proofs.Ytoneechcclndaaa.Word

theorem rone_nat (r : Wr) (w : World) (hr : r.Rd w) : Calls Try.prog 58 #[.int .u8 110, r.agg] w (RetA w 5 1 encB (putK .nat r.v)) := by
  have hp := Lib.hid (fun W => rput r.v.n hr.wf.1 W)
  clear hr
  unfold Wr.agg
  go_enter Try.func58, Try.ntmps58
  go_wp2_with (go_at_call 25; refine (hp.out _).mono ?_; rintro e w1 ⟨v, rfl, hown, hb⟩)
  go_ret
  exact RetA.of_own (below_1 w _) hown hb
theorem rone_int (r : Wr) (w : World) (hr : r.Rd w) : Calls Try.prog 58 #[.int .u8 105, r.agg] w (RetA w 5 1 encB (putK .int r.v)) := by
  have hp := Lib.hid (fun W => rput (foldZ r.v.i) (fold_lt hr.wf.2.1 hr.wf.2.2.1) W)
  have hf := Lib.hid (fun W => rfold_any r.v.i hr.wf.2.1 hr.wf.2.2.1 W)
  clear hr
  unfold Wr.agg
  unfold putK
  simp only
  generalize foldZ r.v.i = z at *
  go_enter Try.func58, Try.ntmps58
  go_wp2_with (first | (go_at_call 85; refine (hf.out _).mono ?_; rintro e w1 ⟨rfl, rfl⟩) | (go_at_call 25; refine (hp.out _).mono ?_; rintro e w1 ⟨v, rfl, hown, hb⟩))
  go_ret
  exact RetA.of_own (below_1 w _) hown hb
theorem rone_flag (r : Wr) (w : World) : Calls Try.prog 58 #[.int .u8 102, r.agg] w (RetA w 5 1 encB (putK .flag r.v)) := by
  obtain ⟨⟨n, i, f, b, l⟩, A, bn, bc, L, ln, lc⟩ := r
  unfold Wr.agg putK
  simp only
  cases f with
  | true =>
    go_enter Try.func58, Try.ntmps58
    go_wp2
    go_ret
    have h := lit_own (w.alloc (.cells #[.int .u64 (n : Int), .int .i64 i, .bool true, .slice A bn bc, .slice L ln lc] 38)) 1
    rw [World.size_alloc] at h
    exact RetA.of_own (w0 := w.alloc (.cells #[.int .u64 (n : Int), .int .i64 i, .bool true, .slice A bn bc, .slice L ln lc] 38)) (below_1 w _) (by rw [World.size_alloc]; exact h) (below_1 _ _)
  | false =>
    go_enter Try.func58, Try.ntmps58
    go_wp2
    go_ret
    have h := lit_own (w.alloc (.cells #[.int .u64 (n : Int), .int .i64 i, .bool false, .slice A bn bc, .slice L ln lc] 38)) 0
    rw [World.size_alloc] at h
    exact RetA.of_own (w0 := w.alloc (.cells #[.int .u64 (n : Int), .int .i64 i, .bool false, .slice A bn bc, .slice L ln lc] 38)) (below_1 w _) (by rw [World.size_alloc]; exact h) (below_1 _ _)
theorem CI.of_own {w w0 w1 : World} {A : Option Addr} {n c : Nat} {bs : List UInt8} (hb0 : Below w.heap.size w w0) (h : Own w1 w0.heap.size 5 1 encB (.slice A n c) bs) (hb : Below w0.heap.size w0 w1) : CI w w1 A n c bs :=
  ⟨OwnA.of_own h, fun k hk => by have := (h.lt hk).1; have := hb0.size; omega, ext_under hb0 (Nat.le_refl _) hb⟩
set_option maxRecDepth 100000 in
set_option maxHeartbeats 2000000 in
theorem rone_bytes (r : Wr) (w : World) (hr : r.Rd w) : Calls Try.prog 58 #[.int .u8 98, r.agg] w (RetA w 5 1 encB (putK .bytes r.v)) := by
  have hbn := hr.bn
  have hb6 := hr.wf.2.2.2.2.1
  obtain ⟨i0, hi, hz, hz1, hz2⟩ := info_parts byInfo
  have HQ := Lib.hid (fun W (hW : Below w.heap.size w W) => hr.b.ext hW)
  have hp := Lib.hid (fun W => rput r.bn (by rw [hbn]; unfold p64; omega) W)
  have hK : Hid (putK .bytes r.v = putW r.bn ++ r.v.b) := by unfold Hid putK; rw [hbn]
  have hpl := putW_len (p64_lt (n := r.bn) (by rw [hbn]; unfold p64; omega))
  have h1 : Hid ((putW r.bn).length + r.v.b.length ≤ maxLen) := by rw [Hid]; unfold maxLen; omega
  have h2 : Hid (((putW r.bn).length + r.v.b.length) * 1 ≤ 140737488355328) := by rw [Hid]; omega
  have hb7 : r.bn ≤ 1000000 := by omega
  have e1 : IntKind.u64.wrap (r.bn : Int) = (r.bn : Int) := IntWalk.u64_in _ (by omega)
  have HN := Lib.hid hbn
  have hB0 : ∀ o, Hid (Below w.heap.size w (w.alloc o).drew) := fun o => hb_ad w o
  clear hr hbn hpl hb6
  rw [hK.out]
  unfold Wr.agg
  obtain ⟨⟨n, i, f, b, l⟩, A, bn, bc, L, ln, lc⟩ := r
  simp only at *
  go_enter Try.func58, Try.ntmps58
  go_wp2
  go_region_law (first | (go_simp; refine (hp.out _).mono ?_; rintro e w1 ⟨v1, rfl, hown1, hb1⟩; obtain ⟨A1, n1, c1, rfl, hn1, hle1, hmx1⟩ := hown1.form; have hB9 : Blk w1 w.heap.size 38 #[.int .u64 (n : Int), .int .i64 i, .bool f, .slice A bn bc, .slice L ln lc] := (by with_reducible exact blk_1 hb1); have k3 : w1.cell? ⟨w.heap.size, 3, none⟩ = some (.slice A bn bc) := hB9.cell 3; have HP := Lib.hid (CI.of_own (hB0 _).out hown1 hb1); clear hown1 hb1 hB9; dsimp only) | (refine step_append_a _ rfl _ _ _ rfl 5 i0 _ 1 1 Try.underlying25 hi hz hz1 hz2 rfl (by decide) encB_len encB_one _ (putW bn) (by rfl) HP.out.own _ A b bn bc (by rfl) HN.out (HQ.out _ HP.out.be) h1.out h2.out ?_; intro v' w' hown' hchg hat; obtain ⟨A3, n3, c3, rfl, hn3, hle3, hmx3, hnil3⟩ := hown'.form; have HA := Lib.hid (HP.out.next hown' hchg hat); clear hown' hchg hat))
  all_goals (
    go_wp2
    go_ret
    exact ⟨_, rfl, HA.out.own, HA.out.fr, HA.out.be⟩)
set_option maxRecDepth 100000 in
set_option maxHeartbeats 4000000 in
theorem rone_row (r : Wr) (w : World) (hr : r.Rd w) : Calls Try.prog 58 #[.int .u8 108, r.agg] w (RetA w 5 1 encB (putK .row r.v)) := by
  have hbn := hr.ln
  have hb6 := hr.wf.2.2.2.2.2
  obtain ⟨i0, hi, hz, hz1, hz2⟩ := info_parts byInfo
  have hrow := Lib.hid (fun W (hW : Below w.heap.size w W) => rrow2_any r.v.l r.lA r.ln r.lc W (hr.l.ext hW) hbn (by omega) hr.wf.2.2.2.1)
  have hp := Lib.hid (fun W => rput r.ln (by rw [hbn]; unfold p64; omega) W)
  have hK : Hid (putK .row r.v = putW r.ln ++ rowW r.v.l) := by unfold Hid putK; rw [hbn]
  have hpl := putW_len (p64_lt (n := r.ln) (by rw [hbn]; unfold p64; omega))
  have hrl := rowW_le r.v.l hr.wf.2.2.2.1
  have h1 : Hid ((putW r.ln).length + (rowW r.v.l).length ≤ maxLen) := by rw [Hid]; unfold maxLen; omega
  have h2 : Hid (((putW r.ln).length + (rowW r.v.l).length) * 1 ≤ 140737488355328) := by rw [Hid]; omega
  have hb7 : r.ln ≤ 1000000 := by omega
  have e1 : IntKind.u64.wrap (r.ln : Int) = (r.ln : Int) := IntWalk.u64_in _ (by omega)
  have hB0 : ∀ o, Hid (Below w.heap.size w (w.alloc o).drew) := fun o => hb_ad w o
  clear hr hbn hpl hb6 hrl
  rw [hK.out]
  unfold Wr.agg
  obtain ⟨⟨n, i, f, b, l⟩, A, bn, bc, L, ln, lc⟩ := r
  simp only at *
  go_enter Try.func58, Try.ntmps58
  go_wp2
  go_region_law (first | (go_simp; refine (hp.out _).mono ?_; rintro e w1 ⟨v1, rfl, hown1, hb1⟩; obtain ⟨A1, n1, c1, rfl, hn1, hle1, hmx1⟩ := hown1.form; have hB9 : Blk w1 w.heap.size 38 #[.int .u64 (n : Int), .int .i64 i, .bool f, .slice A bn bc, .slice L ln lc] := (by with_reducible exact blk_1 hb1); have k4 : w1.cell? ⟨w.heap.size, 4, none⟩ = some (.slice L ln lc) := hB9.cell 4; have HP := Lib.hid (CI.of_own (hB0 _).out hown1 hb1); clear hown1 hb1 hB9; dsimp only) | (go_simp; refine (hrow.out _ HP.out.be).mono ?_; rintro e w2 ⟨v2, rfl, hown2, hfr2, hb2⟩; obtain ⟨A2, n2, c2, rfl, hn2, hle2, hmx2, hnil2⟩ := hown2.form; have HQ := Lib.hid (And.intro (HP.out.ext hb2) hown2); clear hown2 hfr2 hb2; dsimp only) | (refine step_append_a _ rfl _ _ _ rfl 5 i0 _ 1 1 Try.underlying25 hi hz hz1 hz2 rfl (by decide) encB_len encB_one _ (putW ln) (by rfl) HQ.out.1.own _ A2 (rowW l) n2 c2 (by rfl) hn2.out (HQ.out.2.sl encB_len) h1.out h2.out ?_; intro v' w' hown' hchg hat; obtain ⟨A3, n3, c3, rfl, hn3, hle3, hmx3, hnil3⟩ := hown'.form; have HA := Lib.hid (HQ.out.1.next hown' hchg hat); clear hown' hchg hat))
  all_goals (
    go_wp2
    go_ret
    exact ⟨_, rfl, HA.out.own, HA.out.fr, HA.out.be⟩)
theorem rone_any (k : Kd) (r : Wr) (w : World) (hr : r.Rd w) : Calls Try.prog 58 #[.int .u8 (k.byte : Int), r.agg] w (RetA w 5 1 encB (putK k r.v)) := by
  cases k with
  | nat => exact rone_nat r w hr
  | int => exact rone_int r w hr
  | flag => exact rone_flag r w
  | bytes => exact rone_bytes r w hr
  | row => exact rone_row r w hr
end Go.Proofs.Ytoneechcclndaaa.Wire
