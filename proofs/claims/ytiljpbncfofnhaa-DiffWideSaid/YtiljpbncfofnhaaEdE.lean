/- edit: what may be: May of the document. -/
import Derived.Test.YtiljpbncfofnhaaEdD
import Derived.Outline
import Derived.BigQuiet
import Derived.Deep.QuietTactic
import Derived.Deep.RegionWith
import Derived.Deep.RegionHeld3
import Derived.Deep.DrawnRows
import Derived.Deep.LoopGhost
import Derived.Deep.DeepCutAuto
import Derived.Laws.EntriesVeiled
import Derived.BigQuiet
namespace Go.Proofs.Ytiljpbncfofnhaa.EdC
open Go.RowKit Go.ChangeShapes Go.WideShapes Go.ChangeAt
set_option linter.unusedVariables false
set_option linter.unusedSimpArgs false
attribute [local go_sem ↓] Go.wp_at_zero Go.wp_at_succ
open MayA FragA

def keyZ (e : Ed) : Bool := e.node == 0 && e.part == 0
def placeZ (f : Fr) : Bool := f.x == 0 && (f.y == 0 && (f.w == 0 && (f.h == 0 && f.depth == 0)))
def ownZ (f : Fr) : Bool := f.node == 0 && f.part == 0
def txtZ (f : Fr) : Bool := f.text.toList.isEmpty
def rmayE (e : Ed) : Bool := mayB e.f &&
  (if e.kind = 0 ∨ e.kind = 1 then decide (1 ≤ e.n) && (decide (e.n ≤ 2048) && (keyZ e && (placeZ e.f && (ownZ e.f && txtZ e.f))))
  else if e.kind = 2 then e.n == 0 && keyZ e
  else if e.kind = 3 then e.n == 0 && (placeZ e.f && (ownZ e.f && (txtZ e.f && (decide (0 ≤ e.node) && (decide (e.node ≤ 1099511627776) && (decide (0 ≤ e.part) && decide (e.part ≤ 1099511627776)))))))
  else if e.kind = 4 then e.n == 0 && (keyZ e && (ownZ e.f && txtZ e.f))
  else if e.kind = 5 then e.n == 0 && (keyZ e && (placeZ e.f && ownZ e.f))
  else false)
theorem txt_empty (s : ByteArray) : s.toList.isEmpty = true ↔ s = ⟨#[]⟩ := by
  rw [ByteArray.toList_eq, List.isEmpty_iff]
  obtain ⟨⟨x⟩⟩ := s
  simp
theorem rng_z : rng 0 1099511627776 0 = true ∧ rng 0 2048 0 = true ∧ rng (-1099511627776) 1099511627776 0 = true := by decide
theorem key_may (e : Ed) : mayB (keyF e) = (rng 0 1099511627776 e.node && rng 0 1099511627776 e.part) := by
  have hk : mayB (keyF e) = (rng 0 1099511627776 e.node && rng 0 1099511627776 e.part && rng 0 2048 0 && rng (-1099511627776) 1099511627776 0 && rng (-1099511627776) 1099511627776 0 && rng (-1099511627776) 1099511627776 0 && rng (-1099511627776) 1099511627776 0 && true) := rfl
  obtain ⟨h1, h2, h3⟩ := rng_z
  rw [hk, h2, h3]
  simp
theorem rng_dec (a b c : Int) : rng a b c = (decide (a ≤ c) && decide (c ≤ b)) := by
  unfold rng out
  rw [Bool.eq_iff_iff]
  simp
theorem rmay_eq (e : Ed) (h0 : 0 ≤ e.kind) : rmayE e = mayE e := by
  rw [Bool.eq_iff_iff]
  unfold rmayE mayE
  simp only [Bool.and_eq_true, Ed.beq_iff, key_may, rng_dec, Bool.or_eq_true, Bool.not_eq_true', decide_eq_true_eq]
  obtain ⟨kind, n, node, part, node', part', depth, x, y, w, h, text⟩ := e
  simp only at h0
  have hc : kind = 0 ∨ kind = 1 ∨ kind = 2 ∨ kind = 3 ∨ kind = 4 ∨ kind = 5 ∨ 5 < kind := by omega
  have ht : text.toList = [] ↔ text = ⟨#[]⟩ := by rw [← txt_empty, List.isEmpty_iff]
  have hE : ByteArray.empty = ⟨#[]⟩ := rfl
  rcases hc with rfl | rfl | rfl | rfl | rfl | rfl | hk
  all_goals try simp only [bareE, keyZ, placeZ, ownZ, txtZ, countsE, Fr.z, hE]
  · simp [ht]
    clear ht
    generalize mayB _ = P
    try generalize (text = _) = T
    constructor <;> intro H <;> (repeat' apply And.intro) <;> first | (simp_all; done) | omega | exact H.1 | exact H.2.1
  · simp [ht]
    clear ht
    generalize mayB _ = P
    try generalize (text = _) = T
    constructor <;> intro H <;> (repeat' apply And.intro) <;> first | (simp_all; done) | omega | exact H.1 | exact H.2.1
  · simp [ht]
    clear ht
    generalize mayB _ = P
    try generalize (text = _) = T
    constructor <;> intro H <;> (repeat' apply And.intro) <;> first | (simp_all; done) | omega | exact H.1 | exact H.2.1
  · simp [ht]
    clear ht
    generalize mayB _ = P
    try generalize (text = _) = T
    constructor <;> intro H <;> (repeat' apply And.intro) <;> first | (simp_all; done) | omega | exact H.1 | exact H.2.1
  · simp [ht]
    clear ht
    generalize mayB _ = P
    try generalize (text = _) = T
    constructor <;> intro H <;> (repeat' apply And.intro) <;> first | (simp_all; done) | omega | exact H.1 | exact H.2.1
  · simp [ht]
    clear ht
    generalize mayB _ = P
    try generalize (text = _) = T
    constructor <;> intro H <;> (repeat' apply And.intro) <;> first | (simp_all; done) | omega | exact H.1 | exact H.2.1
  · have e5 : ¬ kind ≤ 5 := by omega
    have e0 : ¬ kind = 0 := by omega
    have e1 : ¬ kind = 1 := by omega
    have e2 : ¬ kind = 2 := by omega
    have e3 : ¬ kind = 3 := by omega
    have e4 : ¬ kind = 4 := by omega
    have e6 : ¬ kind = 5 := by omega
    simp [e0, e1, e2, e3, e4, e5, e6]
theorem fbox_cells {w : World} {g : Nat} {f : Fr} (h : Blk w g 67 f.cells.toArray) :
    w.cell? ⟨g, 0, none⟩ = some (.int .i64 f.node) ∧ w.cell? ⟨g, 1, none⟩ = some (.int .i64 f.part) ∧ w.cell? ⟨g, 2, none⟩ = some (.int .i64 f.depth) ∧ w.cell? ⟨g, 3, none⟩ = some (.int .i64 f.x) ∧
    w.cell? ⟨g, 4, none⟩ = some (.int .i64 f.y) ∧ w.cell? ⟨g, 5, none⟩ = some (.int .i64 f.w) ∧ w.cell? ⟨g, 6, none⟩ = some (.int .i64 f.h) ∧ w.cell? ⟨g, 7, none⟩ = some (.string f.text) :=
  ⟨h.cell 0, h.cell 1, h.cell 2, h.cell 3, h.cell 4, h.cell 5, h.cell 6, h.cell 7⟩
set_option maxHeartbeats 8000000 in
set_option maxRecDepth 100000 in
theorem rmay_any (e : Ed) (w : World) (hw : e.Wf) : Calls Try.prog 43 #[e.agg] w fun r w' => r = .returned (.bool (mayE e)) ∧ Below w.heap.size w w' := by
  have hE := Lib.hid (rmay_eq e hw.kind.1)
  have hB1 := (box_blk w e).alloc (.cells #[.int .i64 e.f.node, .int .i64 e.f.part, .int .i64 e.f.depth, .int .i64 e.f.x, .int .i64 e.f.y, .int .i64 e.f.w, .int .i64 e.f.h, .string e.f.text] 67)
  have hB2 : Blk ((w.alloc (.cells #[.int .u8 e.kind, .int .i64 e.n, .int .i64 e.node, .int .i64 e.part, .int .i64 e.f.node, .int .i64 e.f.part, .int .i64 e.f.depth, .int .i64 e.f.x, .int .i64 e.f.y, .int .i64 e.f.w, .int .i64 e.f.h, .string e.f.text] 69)).alloc (.cells #[.int .i64 e.f.node, .int .i64 e.f.part, .int .i64 e.f.depth, .int .i64 e.f.x, .int .i64 e.f.y, .int .i64 e.f.w, .int .i64 e.f.h, .string e.f.text] 67)) (w.heap.size + 1) 67 e.f.cells.toArray := by
    have h := Blk.new (w.alloc (.cells #[.int .u8 e.kind, .int .i64 e.n, .int .i64 e.node, .int .i64 e.part, .int .i64 e.f.node, .int .i64 e.f.part, .int .i64 e.f.depth, .int .i64 e.f.x, .int .i64 e.f.y, .int .i64 e.f.w, .int .i64 e.f.h, .string e.f.text] 69)) 67 e.f.cells.toArray
    rw [show (w.alloc (.cells #[.int .u8 e.kind, .int .i64 e.n, .int .i64 e.node, .int .i64 e.part, .int .i64 e.f.node, .int .i64 e.f.part, .int .i64 e.f.depth, .int .i64 e.f.x, .int .i64 e.f.y, .int .i64 e.f.w, .int .i64 e.f.h, .string e.f.text] 69)).heap.size = w.heap.size + 1 from by simp] at h
    exact h
  obtain ⟨c0, c1, c2, c3, c4, c5, c6, c7, c8, c9, c10, c11⟩ := box_cells hB1
  obtain ⟨d0, d1, d2, d3, d4, d5, d6, d7⟩ := fbox_cells hB2
  have HW : Hid (Below w.heap.size w ((w.alloc (.cells #[.int .u8 e.kind, .int .i64 e.n, .int .i64 e.node, .int .i64 e.part, .int .i64 e.f.node, .int .i64 e.f.part, .int .i64 e.f.depth, .int .i64 e.f.x, .int .i64 e.f.y, .int .i64 e.f.w, .int .i64 e.f.h, .string e.f.text] 69)).alloc (.cells #[.int .i64 e.f.node, .int .i64 e.f.part, .int .i64 e.f.depth, .int .i64 e.f.x, .int .i64 e.f.y, .int .i64 e.f.w, .int .i64 e.f.h, .string e.f.text] 67))) := ((Below.refl _ _).alloc (Nat.le_refl _) _).alloc (by simp) _
  have HM := fun W => Lib.hid (MayA.rmay_any e.f W hw.f.text)
  obtain ⟨bm, hm⟩ : ∃ b, mayB e.f = b := ⟨_, rfl⟩
  rw [hm] at HM
  unfold Fr.agg at HM
  clear hB1 hB2
  unfold Ed.agg
  go_enter Try.func43, Try.ntmps43
  go_upto_region 2 with fail
  have hzW : w.heap.size + 1 < ((w.alloc (.cells #[.int .u8 e.kind, .int .i64 e.n, .int .i64 e.node, .int .i64 e.part, .int .i64 e.f.node, .int .i64 e.f.part, .int .i64 e.f.depth, .int .i64 e.f.x, .int .i64 e.f.y, .int .i64 e.f.w, .int .i64 e.f.h, .string e.f.text] 69)).alloc (.cells #[.int .i64 e.f.node, .int .i64 e.f.part, .int .i64 e.f.depth, .int .i64 e.f.x, .int .i64 e.f.y, .int .i64 e.f.w, .int .i64 e.f.h, .string e.f.text] 67)).heap.size := by simp
  generalize (w.alloc (.cells #[.int .u8 e.kind, .int .i64 e.n, .int .i64 e.node, .int .i64 e.part, .int .i64 e.f.node, .int .i64 e.f.part, .int .i64 e.f.depth, .int .i64 e.f.x, .int .i64 e.f.y, .int .i64 e.f.w, .int .i64 e.f.h, .string e.f.text] 69)).alloc (.cells #[.int .i64 e.f.node, .int .i64 e.f.part, .int .i64 e.f.depth, .int .i64 e.f.x, .int .i64 e.f.y, .int .i64 e.f.w, .int .i64 e.f.h, .string e.f.text] 67) = W at *
  obtain ⟨g, hg⟩ : ∃ g, Hid (w.heap.size = g) := ⟨_, rfl⟩
  rw [hg.out] at c0 c1 c2 c3 c4 c5 c6 c7 c8 c9 c10 c11 d0 d1 d2 d3 d4 d5 d6 d7 hzW ⊢
  obtain ⟨bn, hbn⟩ : ∃ b, (e.n == 0) = b := ⟨_, rfl⟩
  obtain ⟨ba, hba⟩ : ∃ b, (e.node == 0) = b := ⟨_, rfl⟩
  obtain ⟨bb, hbb⟩ : ∃ b, (e.part == 0) = b := ⟨_, rfl⟩
  obtain ⟨x0, hx0⟩ : ∃ b, (e.f.x == 0) = b := ⟨_, rfl⟩
  obtain ⟨x1, hx1⟩ : ∃ b, (e.f.y == 0) = b := ⟨_, rfl⟩
  obtain ⟨x2, hx2⟩ : ∃ b, (e.f.w == 0) = b := ⟨_, rfl⟩
  obtain ⟨x3, hx3⟩ : ∃ b, (e.f.h == 0) = b := ⟨_, rfl⟩
  obtain ⟨x4, hx4⟩ : ∃ b, (e.f.depth == 0) = b := ⟨_, rfl⟩
  obtain ⟨y0, hy0⟩ : ∃ b, (e.f.node == 0) = b := ⟨_, rfl⟩
  obtain ⟨y1, hy1⟩ : ∃ b, (e.f.part == 0) = b := ⟨_, rfl⟩
  obtain ⟨bt, hbt⟩ : ∃ b, e.f.text.toList.isEmpty = b := ⟨_, rfl⟩
  obtain ⟨bk, hbk⟩ : ∃ b, Hid (b = (ba && bb)) := ⟨_, rfl⟩
  obtain ⟨bp, hbp⟩ : ∃ b, Hid (b = (x0 && (x1 && (x2 && (x3 && x4))))) := ⟨_, rfl⟩
  obtain ⟨bo, hbo⟩ : ∃ b, Hid (b = (y0 && y1)) := ⟨_, rfl⟩
  have hE2 : Hid (mayE e = (bm && (if e.kind = 0 ∨ e.kind = 1 then decide (1 ≤ e.n) && (decide (e.n ≤ 2048) && (bk && (bp && (bo && bt)))) else if e.kind = 2 then bn && bk else if e.kind = 3 then bn && (bp && (bo && (bt && (decide (0 ≤ e.node) && (decide (e.node ≤ 1099511627776) && (decide (0 ≤ e.part) && decide (e.part ≤ 1099511627776)))))))
      else if e.kind = 4 then bn && (bk && (bo && bt)) else if e.kind = 5 then bn && (bk && (bp && bo)) else false))) := by
    rw [Hid, ← hE.out, rmayE, keyZ, placeZ, ownZ, txtZ, hm, hbn, hba, hbb, hx0, hx1, hx2, hx3, hx4, hy0, hy1, hbt, ← hbk.out, ← hbp.out, ← hbo.out]
  clear hE hm
  go_cut [4, 5] (fun s4 s5 wx => s4 = .bool bn ∧ s5 = .bool bk ∧ Hid (∃ k, wx = W.drewN k))
  case first =>
    cases ba with
    | true =>
      go_quiet (fail)
      go_wp2
      go_meet
      exact ⟨rfl, by rw [hbk.out]; rfl, nq, rfl⟩
    | false =>
      go_quiet (fail)
      go_wp2
      go_meet
      exact ⟨rfl, by rw [hbk.out]; rfl, nq, rfl⟩
  case rest =>
    obtain ⟨rfl, rfl, hk⟩ := hcut
    obtain ⟨k, hk⟩ := hk.out
    subst hk
    go_upto_region 3 with fail
    go_cut [6] (fun s6 wx => s6 = .bool bp ∧ W.drewN k = wx)
    case first =>
      have hcs : x0 = false ∨ (x0 = true ∧ (x1 = false ∨ (x1 = true ∧ (x2 = false ∨ (x2 = true ∧ (x3 = false ∨ (x3 = true ∧ (x4 = false ∨ x4 = true)))))))) := by
        cases x0 <;> cases x1 <;> cases x2 <;> cases x3 <;> cases x4 <;> simp
      rcases hcs with rfl | ⟨rfl, rfl | ⟨rfl, rfl | ⟨rfl, rfl | ⟨rfl, rfl | rfl⟩⟩⟩⟩
      all_goals (
        go_wp2
        go_meet
        exact ⟨by rw [hbp.out]; rfl, rfl⟩)
    case rest =>
      obtain ⟨rfl, rfl⟩ := hcut
      go_upto_region 4 with fail
      go_cut [7] (fun s7 wx => s7 = .bool bo ∧ W.drewN k = wx)
      case first =>
        cases y0 with
        | true =>
          go_wp2
          go_meet
          exact ⟨by rw [hbo.out]; rfl, rfl⟩
        | false =>
          go_wp2
          go_meet
          exact ⟨by rw [hbo.out]; rfl, rfl⟩
      case rest =>
        obtain ⟨rfl, rfl⟩ := hcut
        go_wp2_with fail
        refine ((HM _).out).mono ?_; rintro r w1 ⟨rfl, hb1⟩
        have HZ : Hid (Below w.heap.size w w1) := ext_under (bdrewN HW.out k) (Nat.le_refl _) hb1
        have z0 : w1.cell? ⟨g, 0, none⟩ = some (.int .u8 e.kind) := (hb1.cell (p := ⟨g, 0, none⟩) (by simp; omega)).trans c0
        have z1 : w1.cell? ⟨g, 1, none⟩ = some (.int .i64 e.n) := (hb1.cell (p := ⟨g, 1, none⟩) (by simp; omega)).trans c1
        have z2 : w1.cell? ⟨g, 2, none⟩ = some (.int .i64 e.node) := (hb1.cell (p := ⟨g, 2, none⟩) (by simp; omega)).trans c2
        have z3 : w1.cell? ⟨g, 3, none⟩ = some (.int .i64 e.part) := (hb1.cell (p := ⟨g, 3, none⟩) (by simp; omega)).trans c3
        have z7 : w1.cell? ⟨g + 1, 7, none⟩ = some (.string e.f.text) := (hb1.cell (p := ⟨g + 1, 7, none⟩) (by simp; omega)).trans d7
        clear hb1 c0 c1 c2 c3 c4 c5 c6 c7 c8 c9 c10 c11 d0 d1 d2 d3 d4 d5 d6 d7 hx0 hx1 hx2 hx3 hx4 hy0 hy1 hba hbb hbn HM
        cases bm with
        | false =>
          go_wp2
          go_ret
          exact ⟨ret_bool (by rw [hE2.out]; rfl), HZ.out⟩
        | true =>
          obtain ⟨n1, hn1⟩ : ∃ b, decide (1 ≤ e.n) = b := ⟨_, rfl⟩
          obtain ⟨n2, hn2⟩ : ∃ b, decide (e.n ≤ 2048) = b := ⟨_, rfl⟩
          obtain ⟨p1, hp1⟩ : ∃ b, decide (0 ≤ e.node) = b := ⟨_, rfl⟩
          obtain ⟨p2, hp2⟩ : ∃ b, decide (e.node ≤ 1099511627776) = b := ⟨_, rfl⟩
          obtain ⟨p3, hp3⟩ : ∃ b, decide (0 ≤ e.part) = b := ⟨_, rfl⟩
          obtain ⟨p4, hp4⟩ : ∃ b, decide (e.part ≤ 1099511627776) = b := ⟨_, rfl⟩
          have hkk : e.kind = 0 ∨ e.kind = 1 ∨ e.kind = 2 ∨ e.kind = 3 ∨ e.kind = 4 ∨ e.kind = 5 ∨ 5 < e.kind := by have := hw.kind.1; omega
          rcases hkk with k0 | k1 | k2 | k3 | k4 | k5 | k6
          · have hF : Hid (mayE e = (n1 && (n2 && (bk && (bp && (bo && (bt))))))) := by rw [Hid, hE2.out]; simp [k0, hn1, hn2]
            rw [k0] at z0
            have hcs : n1 = false ∨ (n1 = true ∧ (n2 = false ∨ (n2 = true ∧ (bk = false ∨ (bk = true ∧ (bp = false ∨ (bp = true ∧ (bo = false ∨ (bo = true ∧ (bt = false ∨ bt = true)))))))))) := by
              cases n1 <;> cases n2 <;> cases bk <;> cases bp <;> cases bo <;> cases bt <;> simp
            rcases hcs with rfl | ⟨rfl, rfl | ⟨rfl, rfl | ⟨rfl, rfl | ⟨rfl, rfl | ⟨rfl, rfl | rfl⟩⟩⟩⟩⟩
            all_goals (
              go_wp2
              go_ret
              exact ⟨ret_bool hF.out.symm, HZ.out⟩)
          · have hF : Hid (mayE e = (n1 && (n2 && (bk && (bp && (bo && (bt))))))) := by rw [Hid, hE2.out]; simp [k1, hn1, hn2]
            rw [k1] at z0
            have hcs : n1 = false ∨ (n1 = true ∧ (n2 = false ∨ (n2 = true ∧ (bk = false ∨ (bk = true ∧ (bp = false ∨ (bp = true ∧ (bo = false ∨ (bo = true ∧ (bt = false ∨ bt = true)))))))))) := by
              cases n1 <;> cases n2 <;> cases bk <;> cases bp <;> cases bo <;> cases bt <;> simp
            rcases hcs with rfl | ⟨rfl, rfl | ⟨rfl, rfl | ⟨rfl, rfl | ⟨rfl, rfl | ⟨rfl, rfl | rfl⟩⟩⟩⟩⟩
            all_goals (
              go_wp2
              go_ret
              exact ⟨ret_bool hF.out.symm, HZ.out⟩)
          · have hF : Hid (mayE e = (bn && (bk))) := by rw [Hid, hE2.out]; simp [k2]
            rw [k2] at z0
            have hcs : bn = false ∨ (bn = true ∧ (bk = false ∨ bk = true)) := by
              cases bn <;> cases bk <;> simp
            rcases hcs with rfl | ⟨rfl, rfl | rfl⟩
            all_goals (
              go_wp2
              go_ret
              exact ⟨ret_bool hF.out.symm, HZ.out⟩)
          · have hF : Hid (mayE e = (bn && (bp && (bo && (bt && (p1 && (p2 && (p3 && (p4))))))))) := by rw [Hid, hE2.out]; simp [k3, hp1, hp2, hp3, hp4]
            rw [k3] at z0
            have hcs : bn = false ∨ (bn = true ∧ (bp = false ∨ (bp = true ∧ (bo = false ∨ (bo = true ∧ (bt = false ∨ (bt = true ∧ (p1 = false ∨ (p1 = true ∧ (p2 = false ∨ (p2 = true ∧ (p3 = false ∨ (p3 = true ∧ (p4 = false ∨ p4 = true)))))))))))))) := by
              cases bn <;> cases bp <;> cases bo <;> cases bt <;> cases p1 <;> cases p2 <;> cases p3 <;> cases p4 <;> simp
            rcases hcs with rfl | ⟨rfl, rfl | ⟨rfl, rfl | ⟨rfl, rfl | ⟨rfl, rfl | ⟨rfl, rfl | ⟨rfl, rfl | ⟨rfl, rfl | rfl⟩⟩⟩⟩⟩⟩⟩
            all_goals (
              go_wp2
              go_ret
              exact ⟨ret_bool hF.out.symm, HZ.out⟩)
          · have hF : Hid (mayE e = (bn && (bk && (bo && (bt))))) := by rw [Hid, hE2.out]; simp [k4]
            rw [k4] at z0
            have hcs : bn = false ∨ (bn = true ∧ (bk = false ∨ (bk = true ∧ (bo = false ∨ (bo = true ∧ (bt = false ∨ bt = true)))))) := by
              cases bn <;> cases bk <;> cases bo <;> cases bt <;> simp
            rcases hcs with rfl | ⟨rfl, rfl | ⟨rfl, rfl | ⟨rfl, rfl | rfl⟩⟩⟩
            all_goals (
              go_wp2
              go_ret
              exact ⟨ret_bool hF.out.symm, HZ.out⟩)
          · have hF : Hid (mayE e = (bn && (bk && (bp && (bo))))) := by rw [Hid, hE2.out]; simp [k5]
            rw [k5] at z0
            have hcs : bn = false ∨ (bn = true ∧ (bk = false ∨ (bk = true ∧ (bp = false ∨ (bp = true ∧ (bo = false ∨ bo = true)))))) := by
              cases bn <;> cases bk <;> cases bp <;> cases bo <;> simp
            rcases hcs with rfl | ⟨rfl, rfl | ⟨rfl, rfl | ⟨rfl, rfl | rfl⟩⟩⟩
            all_goals (
              go_wp2
              go_ret
              exact ⟨ret_bool hF.out.symm, HZ.out⟩)
          · have hF : Hid (mayE e = false) := by rw [Hid, hE2.out, if_neg (by omega), if_neg (by omega), if_neg (by omega), if_neg (by omega), if_neg (by omega)]; rfl
            have e0 : (e.kind == 0) = false := by simp; omega
            have e1 : (e.kind == 1) = false := by simp; omega
            have e2 : (e.kind == 2) = false := by simp; omega
            have e3 : (e.kind == 3) = false := by simp; omega
            have e4 : (e.kind == 4) = false := by simp; omega
            have e5 : (e.kind == 5) = false := by simp; omega
            go_wp2
            go_ret
            exact ⟨ret_bool hF.out.symm, HZ.out⟩
end Go.Proofs.Ytiljpbncfofnhaa.EdC
