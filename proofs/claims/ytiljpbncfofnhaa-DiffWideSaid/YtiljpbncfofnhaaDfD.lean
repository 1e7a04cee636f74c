/- diff: edits that are put together in memory: become. -/
import Derived.Test.YtiljpbncfofnhaaDfC
import Derived.Outline
import Derived.BigQuiet
import Derived.Deep.QuietTactic
import Derived.Deep.RegionWith
import Derived.Deep.RegionHeld3
import Derived.Deep.DrawnRows
import Derived.Deep.LoopGhost
import Derived.Deep.DeepCutAuto
import Derived.Laws.EntriesVeiled
import Derived.Deep.RegionLaw
namespace Go.Proofs.Ytiljpbncfofnhaa.Dif
open Go.RowKit Go.ChangeShapes Go.WideShapes Go.ChangeAt
set_option linter.unusedVariables false
set_option linter.unusedSimpArgs false
attribute [local go_sem ↓] Go.wp_at_zero Go.wp_at_succ
open FragA FragB MayA Tree EdC EdB
attribute [local go_sem ↓] frEq'
attribute [local go_sem] frGuard

theorem keep_any {w0 w : World} {g : Nat} {s : List Ed} (h : ScIn w0 w g s) (hn : ∀ e ∈ s, 0 ≤ e.n ∧ e.n ≤ 1000000) (hs : s.length ≤ 100000000) :
    Calls Try.prog 102 #[.pointer (some ⟨g, 0, none⟩)] w fun r w' => r = .returned (.tuple #[]) ∧ ScIn w0 w' g (keepD s) ∧ KeptD w w' := by
  cases hl : s.getLast? with
  | none => exact keep_new h (fun e he => by rw [hl] at he; cases he) hs
  | some e =>
    by_cases hk : e.kind = 0
    · exact keep_last h hl hk (hn e (List.mem_of_getLast? hl)) hs
    · exact keep_new h (fun e' he => by rw [hl] at he; injection he with he; exact he ▸ hk) hs
set_option maxRecDepth 100000 in
set_option maxHeartbeats 4000000 in
theorem become_any {w0 w : World} {g : Nat} {s : List Ed} (h : ScIn w0 w g s) (f q : Fr) (hn : ∀ e ∈ s, 0 ≤ e.n ∧ e.n ≤ 1000000) (hs : s.length ≤ 100000000) :
    Calls Try.prog 83 #[.pointer (some ⟨g, 0, none⟩), f.agg, q.agg] w fun r w' => r = .returned (.tuple #[]) ∧ ScIn w0 w' g (becomeD s f q) ∧ KeptD w w' := by
  have hb2 : Below w.heap.size w ((w.alloc (.cells #[.int .i64 f.node, .int .i64 f.part, .int .i64 f.depth, .int .i64 f.x, .int .i64 f.y, .int .i64 f.w, .int .i64 f.h, .string f.text] 67)).alloc (.cells #[.int .i64 q.node, .int .i64 q.part, .int .i64 q.depth, .int .i64 q.x, .int .i64 q.y, .int .i64 q.w, .int .i64 q.h, .string q.text] 67)) := ((Below.refl _ _).alloc (Nat.le_refl _) _).alloc (by simp) _
  have d0 := (EdF.below_a (w.alloc (.cells #[.int .i64 f.node, .int .i64 f.part, .int .i64 f.depth, .int .i64 f.x, .int .i64 f.y, .int .i64 f.w, .int .i64 f.h, .string f.text] 67)) (.cells #[.int .i64 q.node, .int .i64 q.part, .int .i64 q.depth, .int .i64 q.x, .int .i64 q.y, .int .i64 q.w, .int .i64 q.h, .string q.text] 67))
  have hBf : Blk ((w.alloc (.cells #[.int .i64 f.node, .int .i64 f.part, .int .i64 f.depth, .int .i64 f.x, .int .i64 f.y, .int .i64 f.w, .int .i64 f.h, .string f.text] 67)).alloc (.cells #[.int .i64 q.node, .int .i64 q.part, .int .i64 q.depth, .int .i64 q.x, .int .i64 q.y, .int .i64 q.w, .int .i64 q.h, .string q.text] 67)) w.heap.size 67 f.cells.toArray := (Blk.new w _ f.cells.toArray).ext d0
  have hBq : Blk ((w.alloc (.cells #[.int .i64 f.node, .int .i64 f.part, .int .i64 f.depth, .int .i64 f.x, .int .i64 f.y, .int .i64 f.w, .int .i64 f.h, .string f.text] 67)).alloc (.cells #[.int .i64 q.node, .int .i64 q.part, .int .i64 q.depth, .int .i64 q.x, .int .i64 q.y, .int .i64 q.w, .int .i64 q.h, .string q.text] 67)) (w.heap.size + 1) 67 q.cells.toArray := by
    have h := Blk.new (w.alloc (.cells #[.int .i64 f.node, .int .i64 f.part, .int .i64 f.depth, .int .i64 f.x, .int .i64 f.y, .int .i64 f.w, .int .i64 f.h, .string f.text] 67)) 67 q.cells.toArray
    rw [show (w.alloc (.cells #[.int .i64 f.node, .int .i64 f.part, .int .i64 f.depth, .int .i64 f.x, .int .i64 f.y, .int .i64 f.w, .int .i64 f.h, .string f.text] 67)).heap.size = w.heap.size + 1 from by simp] at h
    exact h
  have h2 := h.ext hb2
  have HK := Lib.hid (KeptD.of_ext hb2)
  clear d0 h hb2
  cases hb : Fr.beq f q with
  | true =>
    have hD : Hid (becomeD s f q = keepD s) := by rw [Hid, becomeD, if_pos hb]
    have HC := Lib.hid (keep_any h2 hn hs)
    clear h2 hBf hBq
    unfold Fr.agg
    go_enter Try.func83, Try.ntmps83
    go_wp2_with fail
    refine (HC.out).mono ?_; rintro r w3 ⟨rfl, h3, hk3⟩
    have H3 := Lib.hid (And.intro h3 hk3)
    clear h3 hk3
    go_wp2
    go_end0
    rw [hD.out]
    exact ⟨rfl, H3.out.1, HK.out.trans H3.out.2⟩
  | false =>
    cases ht : (f.text.toList == q.text.toList) with
    | true =>
      have hD : Hid (becomeD s f q = s ++ [⟨4, 0, 0, 0, ⟨0, 0, q.depth, q.x, q.y, q.w, q.h, ⟨#[]⟩⟩⟩]) := by rw [Hid, becomeD, if_neg (by rw [hb]; simp), if_pos ht]; rfl
      obtain ⟨v, h⟩ := h2
      obtain ⟨i0, hi0, hz, hz1, hz2⟩ := info_parts edInfo
      obtain ⟨A3, n3, c3, rfl, _, _, _, _⟩ := h.own.form
      obtain ⟨x0, x1, x2, x3, x4, x5, x6, x7⟩ := EdC.fbox_cells hBf
      obtain ⟨y0, y1, y2, y3, y4, y5, y6, y7⟩ := EdC.fbox_cells hBq
      have hqlt := hBq.lt
      have a1 : Hid (s.length + [(⟨4, 0, 0, 0, ⟨0, 0, q.depth, q.x, q.y, q.w, q.h, ⟨#[]⟩⟩⟩ : Ed)].length ≤ maxLen) := by rw [Hid]; simp [maxLen]; omega
      have a2 : Hid ((s.length + [(⟨4, 0, 0, 0, ⟨0, 0, q.depth, q.x, q.y, q.w, q.h, ⟨#[]⟩⟩⟩ : Ed)].length) * 104 ≤ 140737488355328) := by rw [Hid]; simp; omega
      unfold Fr.agg
      go_enter Try.func83, Try.ntmps83
      go_upto_region 5 with fail
      have HQ0 := Lib.hid hBq
      generalize (w.alloc (.cells #[.int .i64 f.node, .int .i64 f.part, .int .i64 f.depth, .int .i64 f.x, .int .i64 f.y, .int .i64 f.w, .int .i64 f.h, .string f.text] 67)).alloc (.cells #[.int .i64 q.node, .int .i64 q.part, .int .i64 q.depth, .int .i64 q.x, .int .i64 q.y, .int .i64 q.w, .int .i64 q.h, .string q.text] 67) = W at *
      generalize w.heap.size = gf at *
      have c0 : W.cell? ⟨g, 0, none⟩ = some (.slice A3 n3 c3) := h.blk.cell 0
      have HQ := Lib.hid hBq
      have HO : Hid (OwnA ((W.alloc (.cells #[.int .u8 (⟨4, 0, 0, 0, ⟨0, 0, q.depth, q.x, q.y, q.w, q.h, ⟨#[]⟩⟩⟩ : Ed).kind, .int .i64 (⟨4, 0, 0, 0, ⟨0, 0, q.depth, q.x, q.y, q.w, q.h, ⟨#[]⟩⟩⟩ : Ed).n, .int .i64 (⟨4, 0, 0, 0, ⟨0, 0, q.depth, q.x, q.y, q.w, q.h, ⟨#[]⟩⟩⟩ : Ed).node, .int .i64 (⟨4, 0, 0, 0, ⟨0, 0, q.depth, q.x, q.y, q.w, q.h, ⟨#[]⟩⟩⟩ : Ed).part, .int .i64 (⟨4, 0, 0, 0, ⟨0, 0, q.depth, q.x, q.y, q.w, q.h, ⟨#[]⟩⟩⟩ : Ed).f.node, .int .i64 (⟨4, 0, 0, 0, ⟨0, 0, q.depth, q.x, q.y, q.w, q.h, ⟨#[]⟩⟩⟩ : Ed).f.part, .int .i64 (⟨4, 0, 0, 0, ⟨0, 0, q.depth, q.x, q.y, q.w, q.h, ⟨#[]⟩⟩⟩ : Ed).f.depth, .int .i64 (⟨4, 0, 0, 0, ⟨0, 0, q.depth, q.x, q.y, q.w, q.h, ⟨#[]⟩⟩⟩ : Ed).f.x, .int .i64 (⟨4, 0, 0, 0, ⟨0, 0, q.depth, q.x, q.y, q.w, q.h, ⟨#[]⟩⟩⟩ : Ed).f.y, .int .i64 (⟨4, 0, 0, 0, ⟨0, 0, q.depth, q.x, q.y, q.w, q.h, ⟨#[]⟩⟩⟩ : Ed).f.w, .int .i64 (⟨4, 0, 0, 0, ⟨0, 0, q.depth, q.x, q.y, q.w, q.h, ⟨#[]⟩⟩⟩ : Ed).f.h, .string (⟨4, 0, 0, 0, ⟨0, 0, q.depth, q.x, q.y, q.w, q.h, ⟨#[]⟩⟩⟩ : Ed).f.text] 69)).drew) 69 12 Ed.cells (.slice A3 n3 c3) s) := (h.own.ext (EdF.below_a _ _)).drew
      have HL : Hid (Sl ((W.alloc (.cells #[.int .u8 (⟨4, 0, 0, 0, ⟨0, 0, q.depth, q.x, q.y, q.w, q.h, ⟨#[]⟩⟩⟩ : Ed).kind, .int .i64 (⟨4, 0, 0, 0, ⟨0, 0, q.depth, q.x, q.y, q.w, q.h, ⟨#[]⟩⟩⟩ : Ed).n, .int .i64 (⟨4, 0, 0, 0, ⟨0, 0, q.depth, q.x, q.y, q.w, q.h, ⟨#[]⟩⟩⟩ : Ed).node, .int .i64 (⟨4, 0, 0, 0, ⟨0, 0, q.depth, q.x, q.y, q.w, q.h, ⟨#[]⟩⟩⟩ : Ed).part, .int .i64 (⟨4, 0, 0, 0, ⟨0, 0, q.depth, q.x, q.y, q.w, q.h, ⟨#[]⟩⟩⟩ : Ed).f.node, .int .i64 (⟨4, 0, 0, 0, ⟨0, 0, q.depth, q.x, q.y, q.w, q.h, ⟨#[]⟩⟩⟩ : Ed).f.part, .int .i64 (⟨4, 0, 0, 0, ⟨0, 0, q.depth, q.x, q.y, q.w, q.h, ⟨#[]⟩⟩⟩ : Ed).f.depth, .int .i64 (⟨4, 0, 0, 0, ⟨0, 0, q.depth, q.x, q.y, q.w, q.h, ⟨#[]⟩⟩⟩ : Ed).f.x, .int .i64 (⟨4, 0, 0, 0, ⟨0, 0, q.depth, q.x, q.y, q.w, q.h, ⟨#[]⟩⟩⟩ : Ed).f.y, .int .i64 (⟨4, 0, 0, 0, ⟨0, 0, q.depth, q.x, q.y, q.w, q.h, ⟨#[]⟩⟩⟩ : Ed).f.w, .int .i64 (⟨4, 0, 0, 0, ⟨0, 0, q.depth, q.x, q.y, q.w, q.h, ⟨#[]⟩⟩⟩ : Ed).f.h, .string (⟨4, 0, 0, 0, ⟨0, 0, q.depth, q.x, q.y, q.w, q.h, ⟨#[]⟩⟩⟩ : Ed).f.text] 69)).drew) (W.alloc (.cells #[.int .u8 (⟨4, 0, 0, 0, ⟨0, 0, q.depth, q.x, q.y, q.w, q.h, ⟨#[]⟩⟩⟩ : Ed).kind, .int .i64 (⟨4, 0, 0, 0, ⟨0, 0, q.depth, q.x, q.y, q.w, q.h, ⟨#[]⟩⟩⟩ : Ed).n, .int .i64 (⟨4, 0, 0, 0, ⟨0, 0, q.depth, q.x, q.y, q.w, q.h, ⟨#[]⟩⟩⟩ : Ed).node, .int .i64 (⟨4, 0, 0, 0, ⟨0, 0, q.depth, q.x, q.y, q.w, q.h, ⟨#[]⟩⟩⟩ : Ed).part, .int .i64 (⟨4, 0, 0, 0, ⟨0, 0, q.depth, q.x, q.y, q.w, q.h, ⟨#[]⟩⟩⟩ : Ed).f.node, .int .i64 (⟨4, 0, 0, 0, ⟨0, 0, q.depth, q.x, q.y, q.w, q.h, ⟨#[]⟩⟩⟩ : Ed).f.part, .int .i64 (⟨4, 0, 0, 0, ⟨0, 0, q.depth, q.x, q.y, q.w, q.h, ⟨#[]⟩⟩⟩ : Ed).f.depth, .int .i64 (⟨4, 0, 0, 0, ⟨0, 0, q.depth, q.x, q.y, q.w, q.h, ⟨#[]⟩⟩⟩ : Ed).f.x, .int .i64 (⟨4, 0, 0, 0, ⟨0, 0, q.depth, q.x, q.y, q.w, q.h, ⟨#[]⟩⟩⟩ : Ed).f.y, .int .i64 (⟨4, 0, 0, 0, ⟨0, 0, q.depth, q.x, q.y, q.w, q.h, ⟨#[]⟩⟩⟩ : Ed).f.w, .int .i64 (⟨4, 0, 0, 0, ⟨0, 0, q.depth, q.x, q.y, q.w, q.h, ⟨#[]⟩⟩⟩ : Ed).f.h, .string (⟨4, 0, 0, 0, ⟨0, 0, q.depth, q.x, q.y, q.w, q.h, ⟨#[]⟩⟩⟩ : Ed).f.text] 69)).heap.size 12 Ed.cells (some ⟨W.heap.size, 0, none⟩) [⟨4, 0, 0, 0, ⟨0, 0, q.depth, q.x, q.y, q.w, q.h, ⟨#[]⟩⟩⟩]) := ed_lit W ⟨4, 0, 0, 0, ⟨0, 0, q.depth, q.x, q.y, q.w, q.h, ⟨#[]⟩⟩⟩
      have HB3 : Hid (Blk ((W.alloc (.cells #[.int .u8 (⟨4, 0, 0, 0, ⟨0, 0, q.depth, q.x, q.y, q.w, q.h, ⟨#[]⟩⟩⟩ : Ed).kind, .int .i64 (⟨4, 0, 0, 0, ⟨0, 0, q.depth, q.x, q.y, q.w, q.h, ⟨#[]⟩⟩⟩ : Ed).n, .int .i64 (⟨4, 0, 0, 0, ⟨0, 0, q.depth, q.x, q.y, q.w, q.h, ⟨#[]⟩⟩⟩ : Ed).node, .int .i64 (⟨4, 0, 0, 0, ⟨0, 0, q.depth, q.x, q.y, q.w, q.h, ⟨#[]⟩⟩⟩ : Ed).part, .int .i64 (⟨4, 0, 0, 0, ⟨0, 0, q.depth, q.x, q.y, q.w, q.h, ⟨#[]⟩⟩⟩ : Ed).f.node, .int .i64 (⟨4, 0, 0, 0, ⟨0, 0, q.depth, q.x, q.y, q.w, q.h, ⟨#[]⟩⟩⟩ : Ed).f.part, .int .i64 (⟨4, 0, 0, 0, ⟨0, 0, q.depth, q.x, q.y, q.w, q.h, ⟨#[]⟩⟩⟩ : Ed).f.depth, .int .i64 (⟨4, 0, 0, 0, ⟨0, 0, q.depth, q.x, q.y, q.w, q.h, ⟨#[]⟩⟩⟩ : Ed).f.x, .int .i64 (⟨4, 0, 0, 0, ⟨0, 0, q.depth, q.x, q.y, q.w, q.h, ⟨#[]⟩⟩⟩ : Ed).f.y, .int .i64 (⟨4, 0, 0, 0, ⟨0, 0, q.depth, q.x, q.y, q.w, q.h, ⟨#[]⟩⟩⟩ : Ed).f.w, .int .i64 (⟨4, 0, 0, 0, ⟨0, 0, q.depth, q.x, q.y, q.w, q.h, ⟨#[]⟩⟩⟩ : Ed).f.h, .string (⟨4, 0, 0, 0, ⟨0, 0, q.depth, q.x, q.y, q.w, q.h, ⟨#[]⟩⟩⟩ : Ed).f.text] 69)).drew) g 126 #[.slice A3 n3 c3]) := (h.blk.ext (EdF.below_a _ _)).drew
      have HQ3 : Hid (Blk ((W.alloc (.cells #[.int .u8 (⟨4, 0, 0, 0, ⟨0, 0, q.depth, q.x, q.y, q.w, q.h, ⟨#[]⟩⟩⟩ : Ed).kind, .int .i64 (⟨4, 0, 0, 0, ⟨0, 0, q.depth, q.x, q.y, q.w, q.h, ⟨#[]⟩⟩⟩ : Ed).n, .int .i64 (⟨4, 0, 0, 0, ⟨0, 0, q.depth, q.x, q.y, q.w, q.h, ⟨#[]⟩⟩⟩ : Ed).node, .int .i64 (⟨4, 0, 0, 0, ⟨0, 0, q.depth, q.x, q.y, q.w, q.h, ⟨#[]⟩⟩⟩ : Ed).part, .int .i64 (⟨4, 0, 0, 0, ⟨0, 0, q.depth, q.x, q.y, q.w, q.h, ⟨#[]⟩⟩⟩ : Ed).f.node, .int .i64 (⟨4, 0, 0, 0, ⟨0, 0, q.depth, q.x, q.y, q.w, q.h, ⟨#[]⟩⟩⟩ : Ed).f.part, .int .i64 (⟨4, 0, 0, 0, ⟨0, 0, q.depth, q.x, q.y, q.w, q.h, ⟨#[]⟩⟩⟩ : Ed).f.depth, .int .i64 (⟨4, 0, 0, 0, ⟨0, 0, q.depth, q.x, q.y, q.w, q.h, ⟨#[]⟩⟩⟩ : Ed).f.x, .int .i64 (⟨4, 0, 0, 0, ⟨0, 0, q.depth, q.x, q.y, q.w, q.h, ⟨#[]⟩⟩⟩ : Ed).f.y, .int .i64 (⟨4, 0, 0, 0, ⟨0, 0, q.depth, q.x, q.y, q.w, q.h, ⟨#[]⟩⟩⟩ : Ed).f.w, .int .i64 (⟨4, 0, 0, 0, ⟨0, 0, q.depth, q.x, q.y, q.w, q.h, ⟨#[]⟩⟩⟩ : Ed).f.h, .string (⟨4, 0, 0, 0, ⟨0, 0, q.depth, q.x, q.y, q.w, q.h, ⟨#[]⟩⟩⟩ : Ed).f.text] 69)).drew) (gf + 1) 67 q.cells.toArray) := (HQ.out.ext (EdF.below_a _ _)).drew
      have HNE : Hid (gf + 1 ≠ g) := Blk.apart HQ.out h.blk (by decide)
      have H := Lib.hid h
      have hgl := h.blk.lt
      clear h x0 x1 x2 x3 x4 x5 x6 x7 y0 y1 y2 y3 y4 y5 y6 y7 hBf hBq HQ0
      refine wp_region_held_drew (S := fun w' => Blk w' (gf + 1) 67 q.cells.toArray) (by kernel_rfl) HQ.out.drew (fun hHeld => ?_)
      try simp only [Act.put, List.setIfInBounds_toArray, List.set_cons_zero, List.set_cons_succ]
      (refine wpAnyH_take (i := 0) (oi := { dst := some 29, op := _, type := _, pos := _, after := _, guard := _ }) (v := ?_) rfl (by kernel_rfl) (by kernel_rfl) (by kernel_rfl) (fun _ _ _ h => h) (Or.inl ⟨by kernel_rfl, (by intro W' hS'; obtain ⟨y0, y1, y2, y3, y4, y5, y6, y7⟩ := EdC.fbox_cells hS'; go_simp; try with_reducible rfl)⟩) (by assumption) ?_; (try simp only [Act.put, List.setIfInBounds_toArray, List.set_cons_zero, List.set_cons_succ]))
      (refine wpAnyH_take (i := 1) (oi := { dst := some 30, op := _, type := _, pos := _, after := _, guard := _ }) (v := ?_) rfl (by kernel_rfl) (by kernel_rfl) (by kernel_rfl) (fun _ _ _ h => h) (Or.inl ⟨by kernel_rfl, (by intro W' hS'; obtain ⟨y0, y1, y2, y3, y4, y5, y6, y7⟩ := EdC.fbox_cells hS'; go_simp; try with_reducible rfl)⟩) (by assumption) ?_; (try simp only [Act.put, List.setIfInBounds_toArray, List.set_cons_zero, List.set_cons_succ]))
      (refine wpAnyH_take (i := 2) (oi := { dst := some 31, op := _, type := _, pos := _, after := _, guard := _ }) (v := ?_) rfl (by kernel_rfl) (by kernel_rfl) (by kernel_rfl) (fun _ _ _ h => h) (Or.inl ⟨by kernel_rfl, (by intro W' hS'; obtain ⟨y0, y1, y2, y3, y4, y5, y6, y7⟩ := EdC.fbox_cells hS'; go_simp; try with_reducible rfl)⟩) (by assumption) ?_; (try simp only [Act.put, List.setIfInBounds_toArray, List.set_cons_zero, List.set_cons_succ]))
      (refine wpAnyH_take (i := 4) (oi := { dst := some 33, op := _, type := _, pos := _, after := _, guard := _ }) (v := ?_) rfl (by kernel_rfl) (by kernel_rfl) (by kernel_rfl) (fun _ _ _ h => h) (Or.inl ⟨by kernel_rfl, (by intro W' hS'; obtain ⟨y0, y1, y2, y3, y4, y5, y6, y7⟩ := EdC.fbox_cells hS'; go_simp; try with_reducible rfl)⟩) (by assumption) ?_; (try simp only [Act.put, List.setIfInBounds_toArray, List.set_cons_zero, List.set_cons_succ]))
      (refine wpAnyH_take (i := 5) (oi := { dst := some 34, op := _, type := _, pos := _, after := _, guard := _ }) (v := ?_) rfl (by kernel_rfl) (by kernel_rfl) (by kernel_rfl) (fun _ _ _ h => h) (Or.inl ⟨by kernel_rfl, (by intro W' hS'; obtain ⟨y0, y1, y2, y3, y4, y5, y6, y7⟩ := EdC.fbox_cells hS'; go_simp; try with_reducible rfl)⟩) (by assumption) ?_; (try simp only [Act.put, List.setIfInBounds_toArray, List.set_cons_zero, List.set_cons_succ]))
      (refine wpAnyH_take (i := 6) (oi := { dst := some 35, op := _, type := _, pos := _, after := _, guard := _ }) (v := ?_) rfl (by kernel_rfl) (by kernel_rfl) (by kernel_rfl) (fun _ _ _ h => h) (Or.inl ⟨by kernel_rfl, (by intro W' hS'; obtain ⟨y0, y1, y2, y3, y4, y5, y6, y7⟩ := EdC.fbox_cells hS'; go_simp; try with_reducible rfl)⟩) (by assumption) ?_; (try simp only [Act.put, List.setIfInBounds_toArray, List.set_cons_zero, List.set_cons_succ]))
      (refine wpAnyH_take (i := 7) (oi := { dst := some 36, op := _, type := _, pos := _, after := _, guard := _ }) (v := ?_) rfl (by kernel_rfl) (by kernel_rfl) (by kernel_rfl) (fun _ _ _ h => h) (Or.inl ⟨by kernel_rfl, (by intro W' hS'; obtain ⟨y0, y1, y2, y3, y4, y5, y6, y7⟩ := EdC.fbox_cells hS'; go_simp; try with_reducible rfl)⟩) (by assumption) ?_; (try simp only [Act.put, List.setIfInBounds_toArray, List.set_cons_zero, List.set_cons_succ]))
      (refine wpAnyH_take (i := 8) (oi := { dst := some 37, op := _, type := _, pos := _, after := _, guard := _ }) (v := ?_) rfl (by kernel_rfl) (by kernel_rfl) (by kernel_rfl) (fun _ _ _ h => h) (Or.inl ⟨by kernel_rfl, (by intro W' hS'; obtain ⟨y0, y1, y2, y3, y4, y5, y6, y7⟩ := EdC.fbox_cells hS'; go_simp; try with_reducible rfl)⟩) (by assumption) ?_; (try simp only [Act.put, List.setIfInBounds_toArray, List.set_cons_zero, List.set_cons_succ]))
      (refine wpAnyH_take (i := 9) (oi := { dst := some 38, op := _, type := _, pos := _, after := _, guard := _ }) (v := ?_) rfl (by kernel_rfl) (by kernel_rfl) (by kernel_rfl) (fun _ _ _ h => h) (Or.inl ⟨by kernel_rfl, (by intro W' hS'; obtain ⟨y0, y1, y2, y3, y4, y5, y6, y7⟩ := EdC.fbox_cells hS'; go_simp; try with_reducible rfl)⟩) (by assumption) ?_; (try simp only [Act.put, List.setIfInBounds_toArray, List.set_cons_zero, List.set_cons_succ]))
      (refine wpAnyH_take (i := 10) (oi := { dst := some 39, op := _, type := _, pos := _, after := _, guard := _ }) (v := ?_) rfl (by kernel_rfl) (by kernel_rfl) (by kernel_rfl) (fun _ _ _ h => h) (Or.inl ⟨by kernel_rfl, (by intro W' hS'; obtain ⟨y0, y1, y2, y3, y4, y5, y6, y7⟩ := EdC.fbox_cells hS'; go_simp; try with_reducible rfl)⟩) (by assumption) ?_; (try simp only [Act.put, List.setIfInBounds_toArray, List.set_cons_zero, List.set_cons_succ]))
      (refine wpAnyH_take (i := 11) (oi := { dst := some 40, op := _, type := _, pos := _, after := _, guard := _ }) (v := ?_) rfl (by kernel_rfl) (by kernel_rfl) (by kernel_rfl) (fun _ _ _ h => h) (Or.inl ⟨by kernel_rfl, (by intro W' hS'; obtain ⟨y0, y1, y2, y3, y4, y5, y6, y7⟩ := EdC.fbox_cells hS'; go_simp; try with_reducible rfl)⟩) (by assumption) ?_; (try simp only [Act.put, List.setIfInBounds_toArray, List.set_cons_zero, List.set_cons_succ]))
      (refine wpAnyH_take (i := 12) (oi := { dst := some 41, op := _, type := _, pos := _, after := _, guard := _ }) (v := ?_) rfl (by kernel_rfl) (by kernel_rfl) (by kernel_rfl) (fun _ _ _ h => h) (Or.inl ⟨by kernel_rfl, (by intro W' hS'; obtain ⟨y0, y1, y2, y3, y4, y5, y6, y7⟩ := EdC.fbox_cells hS'; go_simp; try with_reducible rfl)⟩) (by assumption) ?_; (try simp only [Act.put, List.setIfInBounds_toArray, List.set_cons_zero, List.set_cons_succ]))
      (refine wpAnyH_take (i := 13) (oi := { dst := some 42, op := _, type := _, pos := _, after := _, guard := _ }) (v := ?_) rfl (by kernel_rfl) (by kernel_rfl) (by kernel_rfl) (fun _ _ _ h => h) (Or.inl ⟨by kernel_rfl, (by intro W' hS'; obtain ⟨y0, y1, y2, y3, y4, y5, y6, y7⟩ := EdC.fbox_cells hS'; go_simp; try with_reducible rfl)⟩) (by assumption) ?_; (try simp only [Act.put, List.setIfInBounds_toArray, List.set_cons_zero, List.set_cons_succ]))
      (refine wpAnyH_take (i := 14) (oi := { dst := some 43, op := _, type := _, pos := _, after := _, guard := _ }) (v := ?_) rfl (by kernel_rfl) (by kernel_rfl) (by kernel_rfl) (fun _ _ _ h => h) (Or.inl ⟨by kernel_rfl, (by intro W' hS'; obtain ⟨y0, y1, y2, y3, y4, y5, y6, y7⟩ := EdC.fbox_cells hS'; go_simp; try with_reducible rfl)⟩) (by assumption) ?_; (try simp only [Act.put, List.setIfInBounds_toArray, List.set_cons_zero, List.set_cons_succ]))
      (refine wpAnyH_take (i := 15) (oi := { dst := some 44, op := _, type := _, pos := _, after := _, guard := _ }) (v := ?_) rfl (by kernel_rfl) (by kernel_rfl) (by kernel_rfl) (fun _ _ _ h => h) (Or.inl ⟨by kernel_rfl, (by intro W' hS'; obtain ⟨y0, y1, y2, y3, y4, y5, y6, y7⟩ := EdC.fbox_cells hS'; go_simp; try with_reducible rfl)⟩) (by assumption) ?_; (try simp only [Act.put, List.setIfInBounds_toArray, List.set_cons_zero, List.set_cons_succ]))
      refine wpAnyH_ready (rs := [3, 16]) (by kernel_rfl) (by simp) ?_
      refine AllReadyH.cons (o := { dst := some 32, op := _, type := _, pos := _, after := _, guard := _ }) rfl (fun K hK => ?_) (AllReadyH.cons (o := { dst := some 45, op := _, type := _, pos := _, after := _, guard := _ }) rfl (fun K hK => ?_) AllReadyH.nil)
      · go_simp
        refine hK.out _ _ HQ.out.drew (fun hHeld2 => ?_)
        clear hK K
        try simp only [Act.put, List.setIfInBounds_toArray, List.set_cons_zero, List.set_cons_succ]
        refine wpAnyH_ready (rs := [16]) (by kernel_rfl) (by simp) ?_
        refine AllReadyH.cons (o := { dst := some 45, op := _, type := _, pos := _, after := _, guard := _ }) rfl (fun K hK => ?_) AllReadyH.nil
        go_simp
        refine hK.out _ _ HQ3.out (fun hHeld3 => ?_)
        clear hK K
        try simp only [Act.put, List.setIfInBounds_toArray, List.set_cons_zero, List.set_cons_succ]
        refine wpAnyH_ready (rs := [17]) (by kernel_rfl) (by simp) ?_
        refine AllReadyH.cons (o := { dst := some 46, op := _, type := _, pos := _, after := _, guard := _ }) rfl (fun K hK => ?_) AllReadyH.nil
        refine Eq.mpr (if_pos (by kernel_rfl)) ?_
        refine wp_append_a _ (.tmp 32) (.tmp 45) 126 rfl 69 i0 _ 12 104 Try.underlying126 hi0 hz hz1 hz2 rfl (by decide) Ed.cells_len Ed.cells_one (.slice A3 n3 c3) s rfl HO.out _ (some ⟨W.heap.size, 0, none⟩) [(⟨4, 0, 0, 0, ⟨0, 0, q.depth, q.x, q.y, q.w, q.h, ⟨#[]⟩⟩⟩ : Ed)] 1 1 rfl rfl HL.out a1.out a2.out ?_
        intro v' w9 hown hchg hat
        obtain ⟨A9, n9, c9, rfl, _, _, _, _⟩ := hown.form
        have hb4 := HB3.out.chg hchg (fun e => H.out.own.apart H.out.blk (by decide) e)
        have m2 : w9.cell? ⟨g, 0, none⟩ = some (.slice A3 n3 c3) := hb4.cell 0
        have q2 := hb4.free 0
        have hq9 := HQ3.out.chg hchg (fun e => H.out.own.apart HQ.out (by decide) e)
        have HP := Lib.hid (H.out.put (EdF.below_a W _).drew hown hchg hat)
        clear hown hchg hat hb4
        refine hK.out _ _ hq9 (fun hHeld6 => ?_)
        clear hK K
        try simp only [Act.put, List.setIfInBounds_toArray, List.set_cons_zero, List.set_cons_succ]
        (refine wpAnyH_take (i := 18) (oi := { dst := some 47, op := _, type := _, pos := _, after := _, guard := _ }) (v := ?_) rfl (by kernel_rfl) (by kernel_rfl) (by kernel_rfl) (fun _ _ _ h => h) (Or.inl ⟨by kernel_rfl, (by intro W' hS'; obtain ⟨y0, y1, y2, y3, y4, y5, y6, y7⟩ := EdC.fbox_cells hS'; go_simp; try with_reducible rfl)⟩) (by assumption) ?_; (try simp only [Act.put, List.setIfInBounds_toArray, List.set_cons_zero, List.set_cons_succ]))
        refine wpAnyH_ready (rs := [19]) (by kernel_rfl) (by simp) ?_
        refine AllReadyH.cons (o := { dst := none, op := _, type := _, pos := _, after := _, guard := _ }) rfl (fun K hK => ?_) AllReadyH.nil
        go_simp
        refine hK.out _ _ (hq9.far (p := ⟨g, 0, none⟩) HNE.out _) (fun hHeld7 => ?_)
        clear hK K
        try simp only [Act.put, List.setIfInBounds_toArray, List.set_cons_zero, List.set_cons_succ]
        refine wpAnyH_done (by kernel_rfl) ?_ _
        go_wp2
        go_end0
        rw [hD.out]
        exact ⟨rfl, HP.out.1, HK.out.trans HP.out.2⟩
      · go_simp
        refine hK.out _ _ HQ3.out (fun hHeld2 => ?_)
        clear hK K
        try simp only [Act.put, List.setIfInBounds_toArray, List.set_cons_zero, List.set_cons_succ]
        refine wpAnyH_ready (rs := [3]) (by kernel_rfl) (by simp) ?_
        refine AllReadyH.cons (o := { dst := some 32, op := _, type := _, pos := _, after := _, guard := _ }) rfl (fun K hK => ?_) AllReadyH.nil
        go_simp
        refine hK.out _ _ HQ3.out (fun hHeld3 => ?_)
        clear hK K
        try simp only [Act.put, List.setIfInBounds_toArray, List.set_cons_zero, List.set_cons_succ]
        refine wpAnyH_ready (rs := [17]) (by kernel_rfl) (by simp) ?_
        refine AllReadyH.cons (o := { dst := some 46, op := _, type := _, pos := _, after := _, guard := _ }) rfl (fun K hK => ?_) AllReadyH.nil
        refine Eq.mpr (if_pos (by kernel_rfl)) ?_
        refine wp_append_a _ (.tmp 32) (.tmp 45) 126 rfl 69 i0 _ 12 104 Try.underlying126 hi0 hz hz1 hz2 rfl (by decide) Ed.cells_len Ed.cells_one (.slice A3 n3 c3) s rfl HO.out _ (some ⟨W.heap.size, 0, none⟩) [(⟨4, 0, 0, 0, ⟨0, 0, q.depth, q.x, q.y, q.w, q.h, ⟨#[]⟩⟩⟩ : Ed)] 1 1 rfl rfl HL.out a1.out a2.out ?_
        intro v' w9 hown hchg hat
        obtain ⟨A9, n9, c9, rfl, _, _, _, _⟩ := hown.form
        have hb4 := HB3.out.chg hchg (fun e => H.out.own.apart H.out.blk (by decide) e)
        have m2 : w9.cell? ⟨g, 0, none⟩ = some (.slice A3 n3 c3) := hb4.cell 0
        have q2 := hb4.free 0
        have hq9 := HQ3.out.chg hchg (fun e => H.out.own.apart HQ.out (by decide) e)
        have HP := Lib.hid (H.out.put (EdF.below_a W _).drew hown hchg hat)
        clear hown hchg hat hb4
        refine hK.out _ _ hq9 (fun hHeld6 => ?_)
        clear hK K
        try simp only [Act.put, List.setIfInBounds_toArray, List.set_cons_zero, List.set_cons_succ]
        (refine wpAnyH_take (i := 18) (oi := { dst := some 47, op := _, type := _, pos := _, after := _, guard := _ }) (v := ?_) rfl (by kernel_rfl) (by kernel_rfl) (by kernel_rfl) (fun _ _ _ h => h) (Or.inl ⟨by kernel_rfl, (by intro W' hS'; obtain ⟨y0, y1, y2, y3, y4, y5, y6, y7⟩ := EdC.fbox_cells hS'; go_simp; try with_reducible rfl)⟩) (by assumption) ?_; (try simp only [Act.put, List.setIfInBounds_toArray, List.set_cons_zero, List.set_cons_succ]))
        refine wpAnyH_ready (rs := [19]) (by kernel_rfl) (by simp) ?_
        refine AllReadyH.cons (o := { dst := none, op := _, type := _, pos := _, after := _, guard := _ }) rfl (fun K hK => ?_) AllReadyH.nil
        go_simp
        refine hK.out _ _ (hq9.far (p := ⟨g, 0, none⟩) HNE.out _) (fun hHeld7 => ?_)
        clear hK K
        try simp only [Act.put, List.setIfInBounds_toArray, List.set_cons_zero, List.set_cons_succ]
        refine wpAnyH_done (by kernel_rfl) ?_ _
        go_wp2
        go_end0
        rw [hD.out]
        exact ⟨rfl, HP.out.1, HK.out.trans HP.out.2⟩
    | false =>
      have hD : Hid (becomeD s f q = s ++ [⟨5, 0, 0, 0, ⟨0, 0, 0, 0, 0, 0, 0, q.text⟩⟩]) := by rw [Hid, becomeD, if_neg (by rw [hb]; simp), if_neg (by simp [ht])]
      obtain ⟨v, h⟩ := h2
      obtain ⟨i0, hi0, hz, hz1, hz2⟩ := info_parts edInfo
      obtain ⟨A3, n3, c3, rfl, _, _, _, _⟩ := h.own.form
      obtain ⟨x0, x1, x2, x3, x4, x5, x6, x7⟩ := EdC.fbox_cells hBf
      obtain ⟨y0, y1, y2, y3, y4, y5, y6, y7⟩ := EdC.fbox_cells hBq
      have hqlt := hBq.lt
      have a1 : Hid (s.length + [(⟨5, 0, 0, 0, ⟨0, 0, 0, 0, 0, 0, 0, q.text⟩⟩ : Ed)].length ≤ maxLen) := by rw [Hid]; simp [maxLen]; omega
      have a2 : Hid ((s.length + [(⟨5, 0, 0, 0, ⟨0, 0, 0, 0, 0, 0, 0, q.text⟩⟩ : Ed)].length) * 104 ≤ 140737488355328) := by rw [Hid]; simp; omega
      clear hBf hBq
      unfold Fr.agg
      go_enter Try.func83, Try.ntmps83
      go_upto_region 1 with fail
      generalize (w.alloc (.cells #[.int .i64 f.node, .int .i64 f.part, .int .i64 f.depth, .int .i64 f.x, .int .i64 f.y, .int .i64 f.w, .int .i64 f.h, .string f.text] 67)).alloc (.cells #[.int .i64 q.node, .int .i64 q.part, .int .i64 q.depth, .int .i64 q.x, .int .i64 q.y, .int .i64 q.w, .int .i64 q.h, .string q.text] 67) = W at *
      generalize w.heap.size = gf at *
      have c0 : W.cell? ⟨g, 0, none⟩ = some (.slice A3 n3 c3) := h.blk.cell 0
      have HO : Hid (OwnA ((W.alloc (.cells #[.int .u8 (⟨5, 0, 0, 0, ⟨0, 0, 0, 0, 0, 0, 0, q.text⟩⟩ : Ed).kind, .int .i64 (⟨5, 0, 0, 0, ⟨0, 0, 0, 0, 0, 0, 0, q.text⟩⟩ : Ed).n, .int .i64 (⟨5, 0, 0, 0, ⟨0, 0, 0, 0, 0, 0, 0, q.text⟩⟩ : Ed).node, .int .i64 (⟨5, 0, 0, 0, ⟨0, 0, 0, 0, 0, 0, 0, q.text⟩⟩ : Ed).part, .int .i64 (⟨5, 0, 0, 0, ⟨0, 0, 0, 0, 0, 0, 0, q.text⟩⟩ : Ed).f.node, .int .i64 (⟨5, 0, 0, 0, ⟨0, 0, 0, 0, 0, 0, 0, q.text⟩⟩ : Ed).f.part, .int .i64 (⟨5, 0, 0, 0, ⟨0, 0, 0, 0, 0, 0, 0, q.text⟩⟩ : Ed).f.depth, .int .i64 (⟨5, 0, 0, 0, ⟨0, 0, 0, 0, 0, 0, 0, q.text⟩⟩ : Ed).f.x, .int .i64 (⟨5, 0, 0, 0, ⟨0, 0, 0, 0, 0, 0, 0, q.text⟩⟩ : Ed).f.y, .int .i64 (⟨5, 0, 0, 0, ⟨0, 0, 0, 0, 0, 0, 0, q.text⟩⟩ : Ed).f.w, .int .i64 (⟨5, 0, 0, 0, ⟨0, 0, 0, 0, 0, 0, 0, q.text⟩⟩ : Ed).f.h, .string (⟨5, 0, 0, 0, ⟨0, 0, 0, 0, 0, 0, 0, q.text⟩⟩ : Ed).f.text] 69)).drew) 69 12 Ed.cells (.slice A3 n3 c3) s) := (h.own.ext (EdF.below_a _ _)).drew
      have HL : Hid (Sl ((W.alloc (.cells #[.int .u8 (⟨5, 0, 0, 0, ⟨0, 0, 0, 0, 0, 0, 0, q.text⟩⟩ : Ed).kind, .int .i64 (⟨5, 0, 0, 0, ⟨0, 0, 0, 0, 0, 0, 0, q.text⟩⟩ : Ed).n, .int .i64 (⟨5, 0, 0, 0, ⟨0, 0, 0, 0, 0, 0, 0, q.text⟩⟩ : Ed).node, .int .i64 (⟨5, 0, 0, 0, ⟨0, 0, 0, 0, 0, 0, 0, q.text⟩⟩ : Ed).part, .int .i64 (⟨5, 0, 0, 0, ⟨0, 0, 0, 0, 0, 0, 0, q.text⟩⟩ : Ed).f.node, .int .i64 (⟨5, 0, 0, 0, ⟨0, 0, 0, 0, 0, 0, 0, q.text⟩⟩ : Ed).f.part, .int .i64 (⟨5, 0, 0, 0, ⟨0, 0, 0, 0, 0, 0, 0, q.text⟩⟩ : Ed).f.depth, .int .i64 (⟨5, 0, 0, 0, ⟨0, 0, 0, 0, 0, 0, 0, q.text⟩⟩ : Ed).f.x, .int .i64 (⟨5, 0, 0, 0, ⟨0, 0, 0, 0, 0, 0, 0, q.text⟩⟩ : Ed).f.y, .int .i64 (⟨5, 0, 0, 0, ⟨0, 0, 0, 0, 0, 0, 0, q.text⟩⟩ : Ed).f.w, .int .i64 (⟨5, 0, 0, 0, ⟨0, 0, 0, 0, 0, 0, 0, q.text⟩⟩ : Ed).f.h, .string (⟨5, 0, 0, 0, ⟨0, 0, 0, 0, 0, 0, 0, q.text⟩⟩ : Ed).f.text] 69)).drew) (W.alloc (.cells #[.int .u8 (⟨5, 0, 0, 0, ⟨0, 0, 0, 0, 0, 0, 0, q.text⟩⟩ : Ed).kind, .int .i64 (⟨5, 0, 0, 0, ⟨0, 0, 0, 0, 0, 0, 0, q.text⟩⟩ : Ed).n, .int .i64 (⟨5, 0, 0, 0, ⟨0, 0, 0, 0, 0, 0, 0, q.text⟩⟩ : Ed).node, .int .i64 (⟨5, 0, 0, 0, ⟨0, 0, 0, 0, 0, 0, 0, q.text⟩⟩ : Ed).part, .int .i64 (⟨5, 0, 0, 0, ⟨0, 0, 0, 0, 0, 0, 0, q.text⟩⟩ : Ed).f.node, .int .i64 (⟨5, 0, 0, 0, ⟨0, 0, 0, 0, 0, 0, 0, q.text⟩⟩ : Ed).f.part, .int .i64 (⟨5, 0, 0, 0, ⟨0, 0, 0, 0, 0, 0, 0, q.text⟩⟩ : Ed).f.depth, .int .i64 (⟨5, 0, 0, 0, ⟨0, 0, 0, 0, 0, 0, 0, q.text⟩⟩ : Ed).f.x, .int .i64 (⟨5, 0, 0, 0, ⟨0, 0, 0, 0, 0, 0, 0, q.text⟩⟩ : Ed).f.y, .int .i64 (⟨5, 0, 0, 0, ⟨0, 0, 0, 0, 0, 0, 0, q.text⟩⟩ : Ed).f.w, .int .i64 (⟨5, 0, 0, 0, ⟨0, 0, 0, 0, 0, 0, 0, q.text⟩⟩ : Ed).f.h, .string (⟨5, 0, 0, 0, ⟨0, 0, 0, 0, 0, 0, 0, q.text⟩⟩ : Ed).f.text] 69)).heap.size 12 Ed.cells (some ⟨W.heap.size, 0, none⟩) [⟨5, 0, 0, 0, ⟨0, 0, 0, 0, 0, 0, 0, q.text⟩⟩]) := ed_lit W ⟨5, 0, 0, 0, ⟨0, 0, 0, 0, 0, 0, 0, q.text⟩⟩
      have HB3 : Hid (Blk ((W.alloc (.cells #[.int .u8 (⟨5, 0, 0, 0, ⟨0, 0, 0, 0, 0, 0, 0, q.text⟩⟩ : Ed).kind, .int .i64 (⟨5, 0, 0, 0, ⟨0, 0, 0, 0, 0, 0, 0, q.text⟩⟩ : Ed).n, .int .i64 (⟨5, 0, 0, 0, ⟨0, 0, 0, 0, 0, 0, 0, q.text⟩⟩ : Ed).node, .int .i64 (⟨5, 0, 0, 0, ⟨0, 0, 0, 0, 0, 0, 0, q.text⟩⟩ : Ed).part, .int .i64 (⟨5, 0, 0, 0, ⟨0, 0, 0, 0, 0, 0, 0, q.text⟩⟩ : Ed).f.node, .int .i64 (⟨5, 0, 0, 0, ⟨0, 0, 0, 0, 0, 0, 0, q.text⟩⟩ : Ed).f.part, .int .i64 (⟨5, 0, 0, 0, ⟨0, 0, 0, 0, 0, 0, 0, q.text⟩⟩ : Ed).f.depth, .int .i64 (⟨5, 0, 0, 0, ⟨0, 0, 0, 0, 0, 0, 0, q.text⟩⟩ : Ed).f.x, .int .i64 (⟨5, 0, 0, 0, ⟨0, 0, 0, 0, 0, 0, 0, q.text⟩⟩ : Ed).f.y, .int .i64 (⟨5, 0, 0, 0, ⟨0, 0, 0, 0, 0, 0, 0, q.text⟩⟩ : Ed).f.w, .int .i64 (⟨5, 0, 0, 0, ⟨0, 0, 0, 0, 0, 0, 0, q.text⟩⟩ : Ed).f.h, .string (⟨5, 0, 0, 0, ⟨0, 0, 0, 0, 0, 0, 0, q.text⟩⟩ : Ed).f.text] 69)).drew) g 126 #[.slice A3 n3 c3]) := (h.blk.ext (EdF.below_a _ _)).drew
      have H := Lib.hid h
      have hgl := h.blk.lt
      clear h
      go_region_law ((refine step_append_a _ rfl _ _ _ rfl 69 i0 _ 12 104 Try.underlying126 hi0 hz hz1 hz2 rfl (by decide) Ed.cells_len Ed.cells_one (.slice A3 n3 c3) s (by rfl) HO.out _ (some ⟨W.heap.size, 0, none⟩) [(⟨5, 0, 0, 0, ⟨0, 0, 0, 0, 0, 0, 0, q.text⟩⟩ : Ed)] 1 1 (by rfl) rfl HL.out a1.out a2.out ?_; intro v' w9 hown hchg hat; obtain ⟨A9, n9, c9, rfl, _, _, _, _⟩ := hown.form; have hb4 := HB3.out.chg hchg (fun e => H.out.own.apart H.out.blk (by decide) e); have m2 : w9.cell? ⟨g, 0, none⟩ = some (.slice A3 n3 c3) := hb4.cell 0; have q2 := hb4.free 0; have HP := Lib.hid (H.out.put (EdF.below_a W _).drew hown hchg hat); clear hown hchg hat hb4))
      all_goals (
        go_wp2
        go_end0
        rw [hD.out]
        exact ⟨rfl, HP.out.1, HK.out.trans HP.out.2⟩)
end Go.Proofs.Ytiljpbncfofnhaa.Dif
