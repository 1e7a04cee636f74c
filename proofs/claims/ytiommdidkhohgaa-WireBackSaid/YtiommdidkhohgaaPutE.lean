/- what the letters put; slices.Clip. -/
import Derived.Test.YtiommdidkhohgaaPutD
import Derived.Outline
import Derived.BigQuiet
import Derived.Deep.QuietTactic
import Derived.Deep.RegionWith
import Derived.Deep.RegionHeld3
import Derived.Deep.DrawnRows
import Derived.Deep.LoopGhost
import Derived.Deep.DeepCutAuto
import Derived.Laws.EntriesVeiled
namespace Go.Proofs.Ytiommdidkhohgaa.Wire
open Go.RowKit Go.ChangeShapes Go.WideShapes Go.ChangeAt
set_option linter.unusedVariables false
set_option linter.unusedSimpArgs false
attribute [local go_sem ↓] Go.wp_at_zero Go.wp_at_succ
open Go.Shelf Go.Proofs.Ytiommdidkhohgaa.Word

theorem RetA.of_own {w w0 w1 : World} {v : Value} {l : List UInt8} (hb0 : Below w.heap.size w w0) (h : Own w1 w0.heap.size 5 1 encB v l) (hb : Below w0.heap.size w0 w1) : RetA w 5 1 encB l (.returned v) w1 :=
  ⟨v, rfl, OwnA.of_own h, fun k hk => Nat.le_trans hb0.size (h.lt hk).1, ext_under hb0 (Nat.le_refl _) hb⟩
theorem RetA.up {w w0 w1 : World} {v : Value} {l : List UInt8} (hb0 : Below w.heap.size w w0) (h : RetA w0 5 1 encB l (.returned v) w1) : RetA w 5 1 encB l (.returned v) w1 := by
  obtain ⟨v', he, h1, h2, h3⟩ := h
  injection he with he
  subst he
  exact ⟨v, rfl, h1, fun k hk => Nat.le_trans hb0.size (h2 k hk), ext_under hb0 (Nat.le_refl _) h3⟩
theorem below_1 (w : World) (o : Obj) : Below w.heap.size w (w.alloc o) := (Below.refl _ _).alloc (Nat.le_refl _) _

theorem pnat_any (r : Wr) (w : World) (hr : r.Rd w) : Calls Try.prog 67 #[r.agg] w (RetA w 5 1 encB (putK .nat r.v)) := by
  have hp := Lib.hid (fun W => put_any r.v.n hr.wf.1 W)
  clear hr
  unfold Wr.agg
  go_enter Try.func67, Try.ntmps67
  go_wp2_with (go_at_call 68; refine (hp.out _).mono ?_; rintro e w1 ⟨v, rfl, hown, hb⟩)
  go_ret
  exact RetA.of_own (below_1 w _) hown hb

theorem pint_any (r : Wr) (w : World) (hr : r.Rd w) : Calls Try.prog 70 #[r.agg] w (RetA w 5 1 encB (putK .int r.v)) := by
  have hp := Lib.hid (fun W => put_any (foldZ r.v.i) (fold_lt hr.wf.2.1 hr.wf.2.2.1) W)
  have hf := Lib.hid (fun W => fold_any r.v.i hr.wf.2.1 hr.wf.2.2.1 W)
  clear hr
  unfold Wr.agg
  unfold putK
  simp only
  generalize foldZ r.v.i = z at *
  go_enter Try.func70, Try.ntmps70
  go_wp2_with (first | (go_at_call 71; refine (hf.out _).mono ?_; rintro e w1 ⟨rfl, rfl⟩) | (go_at_call 68; refine (hp.out _).mono ?_; rintro e w1 ⟨v, rfl, hown, hb⟩))
  go_ret
  exact RetA.of_own (below_1 w _) hown hb

theorem pflag_any (r : Wr) (w : World) : Calls Try.prog 73 #[r.agg] w (RetA w 5 1 encB (putK .flag r.v)) := by
  obtain ⟨⟨n, i, f, b, l⟩, A, bn, bc, L, ln, lc⟩ := r
  unfold Wr.agg putK
  simp only
  cases f with
  | true =>
    go_enter Try.func73, Try.ntmps73
    go_wp2
    go_ret
    have h := lit_own (w.alloc (.cells #[.int .u64 (n : Int), .int .i64 i, .bool true, .slice A bn bc, .slice L ln lc] 34)) 1
    rw [World.size_alloc] at h
    exact RetA.of_own (w0 := w.alloc (.cells #[.int .u64 (n : Int), .int .i64 i, .bool true, .slice A bn bc, .slice L ln lc] 34)) (below_1 w _) (by rw [World.size_alloc]; exact h) (below_1 _ _)
  | false =>
    go_enter Try.func73, Try.ntmps73
    go_wp2
    go_ret
    have h := lit_own (w.alloc (.cells #[.int .u64 (n : Int), .int .i64 i, .bool false, .slice A bn bc, .slice L ln lc] 34)) 0
    rw [World.size_alloc] at h
    exact RetA.of_own (w0 := w.alloc (.cells #[.int .u64 (n : Int), .int .i64 i, .bool false, .slice A bn bc, .slice L ln lc] 34)) (below_1 w _) (by rw [World.size_alloc]; exact h) (below_1 _ _)

/-- two rows of bytes put together -/
theorem concat_two (p q : Pt) (w1 : World) (hp : p.Rd w1) (hq : q.Rd w1) (hlen : p.bs.length + q.bs.length ≤ 1000000000000) :
    Calls Try.prog 76 #[.slice (some ⟨w1.heap.size, 0, none⟩) 2 2] (w1.alloc (.cells #[.slice p.A p.n p.cap, .slice q.A q.n q.cap] 22)) (RetA (w1.alloc (.cells #[.slice p.A p.n p.cap, .slice q.A q.n q.cap] 22)) 5 1 encB (p.bs ++ q.bs)) := by
  have h := concat_any [p, q] (some ⟨w1.heap.size, 0, none⟩) 2 2 (w1.alloc (.cells #[.slice p.A p.n p.cap, .slice q.A q.n q.cap] 22)) (lit_list w1 [p, q] 22 Pt.cells_len)
    (fun x hx => by
      rcases List.mem_cons.1 hx with rfl | hx
      · exact hp.ext (below_1 _ _)
      · rw [List.mem_singleton] at hx; subst hx; exact hq.ext (below_1 _ _)) rfl (by decide) (by simpa [allB] using hlen)
  have e : allB [p, q] = p.bs ++ q.bs := by simp [allB]
  rwa [e] at h

set_option maxHeartbeats 4000000 in
theorem pbytes_any (r : Wr) (w : World) (hr : r.Rd w) : Calls Try.prog 75 #[r.agg] w (RetA w 5 1 encB (putK .bytes r.v)) := by
  have hbn := hr.bn
  have hb6 := hr.wf.2.2.2.2.1
  have hq : ∀ W, Below w.heap.size w W → (⟨r.bA, r.bn, r.bc, r.v.b⟩ : Pt).Rd W := fun W hW => ⟨hr.b.ext hW, hr.bn⟩
  have HQ := Lib.hid hq
  have hp := Lib.hid (fun W => put_any r.bn (by rw [hbn]; unfold p64; omega) W)
  have hK : Hid (putK .bytes r.v = putW r.bn ++ r.v.b) := by unfold Hid putK; rw [hbn]
  have hcc : ∀ (w1 : World) (A1 : Option Addr) (n1 c1 : Nat), Hid ((⟨A1, n1, c1, putW r.bn⟩ : Pt).Ok w1 ∧ Below w.heap.size w w1) →
      Calls Try.prog 76 #[.slice (some ⟨w1.heap.size, 0, none⟩) 2 2] (w1.alloc (.cells #[.slice A1 n1 c1, .slice r.bA r.bn r.bc] 22)) (RetA (w1.alloc (.cells #[.slice A1 n1 c1, .slice r.bA r.bn r.bc] 22)) 5 1 encB (putW r.bn ++ r.v.b)) := fun w1 A1 n1 c1 h =>
    concat_two ⟨A1, n1, c1, putW r.bn⟩ ⟨r.bA, r.bn, r.bc, r.v.b⟩ w1 h.out.1.rd (HQ.out w1 h.out.2) (by
      have := putW_len (p64_lt (n := r.bn) (by rw [hbn]; unfold p64; omega))
      simp only; omega)
  have hb7 : r.bn ≤ 1000000 := by omega
  have e1 : IntKind.u64.wrap (r.bn : Int) = (r.bn : Int) := IntWalk.u64_in _ (by omega)
  have hB0 : ∀ o, Hid (Below w.heap.size w (w.alloc o).drew) := fun o => hb_ad w o
  clear hr hq hbn
  rw [hK.out]
  unfold Wr.agg
  obtain ⟨⟨n, i, f, b, l⟩, A, bn, bc, L, ln, lc⟩ := r
  simp only at *
  go_enter Try.func75, Try.ntmps75
  go_wp2
  go_region_with (first | (go_at_call 68; refine (hp.out _).mono ?_; rintro e w1 ⟨v, rfl, hown, hb⟩; obtain ⟨A1, n1, c1, rfl, hn1, hle1, hmx1⟩ := hown.form; have hB9 : Blk w1 w.heap.size 34 #[.int .u64 (n : Int), .int .i64 i, .bool f, .slice A bn bc, .slice L ln lc] := (by with_reducible exact blk_1 hb); have k3 : w1.cell? ⟨w.heap.size, 3, none⟩ = some (.slice A bn bc) := hB9.cell 3; have HP : Hid ((⟨A1, n1, c1, putW bn⟩ : Pt).Ok w1 ∧ Below w.heap.size w w1) := ⟨OwnA.of_own hown, b4_ad hb⟩; clear hown hb hB9) | (go_at_call 76; refine (hcc _ _ _ _ HP).mono ?_; rintro e w3 ⟨v3, rfl, hr3⟩))
  all_goals (
    go_wp2
    go_ret
    exact RetA.up (HP.out.2.trans ((below_1 w1 _).mono HP.out.2.size)) ⟨v3, rfl, hr3⟩)

set_option maxHeartbeats 4000000 in
theorem prow_any (r : Wr) (w : World) (hr : r.Rd w) : Calls Try.prog 78 #[r.agg] w (RetA w 5 1 encB (putK .row r.v)) := by
  have hbn := hr.ln
  have hb6 := hr.wf.2.2.2.2.2
  have hw6 := hr.wf.2.2.2.1
  have hrow : ∀ W, Hid (Below w.heap.size w W) → Calls Try.prog 79 #[.slice r.lA r.ln r.lc] W (RetA W 5 1 encB (rowW r.v.l)) := fun W hW => row_any r.v.l r.lA r.ln r.lc W (hr.l.ext hW.out) hbn (by omega) hw6
  have hp := Lib.hid (fun W => put_any r.ln (by rw [hbn]; unfold p64; omega) W)
  have hK : Hid (putK .row r.v = putW r.ln ++ rowW r.v.l) := by unfold Hid putK; rw [hbn]
  have hrl := rowW_le r.v.l hw6
  have hcc : ∀ (w1 : World) (A1 A2 : Option Addr) (n1 c1 n2 c2 : Nat), Hid ((⟨A1, n1, c1, putW r.ln⟩ : Pt).Ok w1 ∧ (⟨A2, n2, c2, rowW r.v.l⟩ : Pt).Ok w1) →
      Calls Try.prog 76 #[.slice (some ⟨w1.heap.size, 0, none⟩) 2 2] (w1.alloc (.cells #[.slice A1 n1 c1, .slice A2 n2 c2] 22)) (RetA (w1.alloc (.cells #[.slice A1 n1 c1, .slice A2 n2 c2] 22)) 5 1 encB (putW r.ln ++ rowW r.v.l)) := fun w1 A1 A2 n1 c1 n2 c2 h =>
    concat_two ⟨A1, n1, c1, putW r.ln⟩ ⟨A2, n2, c2, rowW r.v.l⟩ w1 h.out.1.rd h.out.2.rd (by
      have := putW_len (p64_lt (n := r.ln) (by rw [hbn]; unfold p64; omega))
      simp only; omega)
  have hb7 : r.ln ≤ 1000000 := by omega
  have e1 : IntKind.u64.wrap (r.ln : Int) = (r.ln : Int) := IntWalk.u64_in _ (by omega)
  clear hr hbn hw6 hrl
  rw [hK.out]
  unfold Wr.agg
  obtain ⟨⟨n, i, f, b, l⟩, A, bn, bc, L, ln, lc⟩ := r
  simp only at *
  go_enter Try.func78, Try.ntmps78
  go_wp2
  go_region_with (first | (go_at_call 68; refine (hp.out _).mono ?_; rintro e w1 ⟨v, rfl, hown, hb⟩; obtain ⟨A1, n1, c1, rfl, hn1, hle1, hmx1⟩ := hown.form; have hB9 : Blk w1 w.heap.size 34 #[.int .u64 (n : Int), .int .i64 i, .bool f, .slice A bn bc, .slice L ln lc] := (by with_reducible exact blk_1 hb); have k4 : w1.cell? ⟨w.heap.size, 4, none⟩ = some (.slice L ln lc) := hB9.cell 4; have HP : Hid ((⟨A1, n1, c1, putW ln⟩ : Pt).Ok w1 ∧ Below w.heap.size w w1) := ⟨OwnA.of_own hown, b4_ad hb⟩; clear hown hb hB9) | (go_at_call 79; refine (hrow _ (Lib.hid HP.out.2)).mono ?_; rintro e w2 ⟨v2, rfl, hown2, hfr2, hb2⟩; obtain ⟨A2, n2, c2, rfl, hn2, hle2, hmx2, hnil2⟩ := hown2.form; have HQ : Hid (((⟨A1, n1, c1, putW ln⟩ : Pt).Ok w2 ∧ (⟨A2, n2, c2, rowW l⟩ : Pt).Ok w2) ∧ Below w.heap.size w w2) := ⟨⟨HP.out.1.ext hb2, hown2⟩, ext_under HP.out.2 (Nat.le_refl _) hb2⟩; clear hown2 hfr2 hb2) | (go_at_call 76; refine (hcc _ _ _ _ _ _ _ (Lib.hid HQ.out.1)).mono ?_; rintro e w3 ⟨v3, rfl, hr3⟩))
  all_goals (
    go_wp2
    go_ret
    exact RetA.up (HQ.out.2.trans ((below_1 w2 _).mono HQ.out.2.size)) ⟨v3, rfl, hr3⟩)

theorem pk_any (k : Kd) (r : Wr) (w : World) (hr : r.Rd w) : Calls Try.prog k.put #[r.agg] w (RetA w 5 1 encB (putK k r.v)) := by
  cases k with
  | nat => exact pnat_any r w hr
  | int => exact pint_any r w hr
  | flag => exact pflag_any r w
  | bytes => exact pbytes_any r w hr
  | row => exact prow_any r w hr
theorem pk_enters (k : Kd) : ∀ args w, (callFunc k.put args).run Try.prog w = .ok (.enter k.put args) w := by
  cases k with
  | nat => exact enters_of Try.func67 (by kernel_rfl) rfl
  | int => exact enters_of Try.func70 (by kernel_rfl) rfl
  | flag => exact enters_of Try.func73 (by kernel_rfl) rfl
  | bytes => exact enters_of Try.func75 (by kernel_rfl) rfl
  | row => exact enters_of Try.func78 (by kernel_rfl) rfl
theorem clip_any (l : List UInt8) (A : Option Addr) (n c : Nat) (w : World) (h : OwnA w 5 1 encB (.slice A n c) l) :
    Calls Try.prog 46 #[.slice A n c] w fun e w' => ∃ A' n' c', e = .returned (.slice A' n' c') ∧ OwnA w 5 1 encB (.slice A' n' c') l ∧ (∀ k, (Value.slice A' n' c').ownBlock = some k → (Value.slice A n c).ownBlock = some k) ∧ w = w' := by
  obtain ⟨A0, n0, c0, hv, hn, hle, hmx, hnil⟩ := h.form
  cases hv
  have hs := Lib.hid (OwnA.take encB_len h n n (by rw [hn.out]; exact Nat.le_refl _) (Nat.le_refl _) hle)
  rw [hn.out, List.take_length] at hs
  rw [← hn.out] at hs
  go_enter Try.func46, Try.ntmps46
  go_wp2
  go_ret
  exact ⟨A, n, n, rfl, hs.out, fun k hk => by rw [own_block A n c n n]; exact hk, rfl⟩
end Go.Proofs.Ytiommdidkhohgaa.Wire
