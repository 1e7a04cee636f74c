/- edit: the loom in memory: with, geometry, text. -/
import Derived.Test.YtiljpbncfofnhaaEdG
import Derived.Outline
import Derived.BigQuiet
import Derived.Deep.QuietTactic
import Derived.Deep.RegionWith
import Derived.Deep.RegionHeld3
import Derived.Deep.DrawnRows
import Derived.Deep.LoopGhost
import Derived.Deep.DeepCutAuto
import Derived.Laws.EntriesVeiled
import Derived.BigRegion
import Derived.Deep.RegionLaw
namespace Go.Proofs.Ytiljpbncfofnhaa.EdF
open Go.RowKit Go.ChangeShapes Go.WideShapes Go.ChangeAt
set_option linter.unusedVariables false
set_option linter.unusedSimpArgs false
attribute [local go_sem ↓] Go.wp_at_zero Go.wp_at_succ
open MayA FragA FragB EdC

def geoF (f g : Fr) : Fr := ⟨f.node, f.part, g.depth, g.x, g.y, g.w, g.h, f.text⟩
def txtF (f g : Fr) : Fr := ⟨f.node, f.part, f.depth, f.x, f.y, f.w, f.h, g.text⟩
set_option maxRecDepth 100000 in
set_option maxHeartbeats 4000000 in
theorem geo1_any (w : World) (fb eb : Nat) (f : Fr) (e : Ed) (hf : Blk w fb 67 f.cells.toArray) (he : Blk w eb 69 e.cells.toArray) :
    Calls Try.prog 112 #[.pointer (some ⟨fb, 0, none⟩), .pointer (some ⟨eb, 0, none⟩)] w fun r w' => r = .returned (.tuple #[]) ∧ Blk w' fb 67 (geoF f e.f).cells.toArray ∧ Chg (fun k => k = fb) w w' := by
  obtain ⟨c0, c1, c2, c3, c4, c5, c6, c7, c8, c9, c10, c11⟩ := box_cells he
  obtain ⟨d0, d1, d2, d3, d4, d5, d6, d7⟩ := fbox_cells hf
  have f2 := hf.free 2
  have f3 := hf.free 3
  have f4 := hf.free 4
  have f5 := hf.free 5
  have f6 := hf.free 6
  have hne : eb ≠ fb := Blk.apart he hf (by decide)
  have HF := Lib.hid (And.intro hf he)
  clear hf he
  go_enter Try.func112, Try.ntmps112
  go_wp2
  go_region
  go_end0
  exact ⟨rfl, (((((HF.out.1.set_ 2 _).set_ 3 _).set_ 4 _).set_ 5 _).set_ 6 _).drew, ((((((Chg.refl (fun k => k = fb) w).setCell (p := ⟨fb, 2, none⟩) (fun _ => rfl) _).setCell (p := ⟨fb, 3, none⟩) (fun _ => rfl) _).setCell (p := ⟨fb, 4, none⟩) (fun _ => rfl) _).setCell (p := ⟨fb, 5, none⟩) (fun _ => rfl) _).setCell (p := ⟨fb, 6, none⟩) (fun _ => rfl) _).drew⟩
theorem txt1_any (w : World) (fb eb : Nat) (f : Fr) (e : Ed) (hf : Blk w fb 67 f.cells.toArray) (he : Blk w eb 69 e.cells.toArray) :
    Calls Try.prog 113 #[.pointer (some ⟨fb, 0, none⟩), .pointer (some ⟨eb, 0, none⟩)] w fun r w' => r = .returned (.tuple #[]) ∧ Blk w' fb 67 (txtF f e.f).cells.toArray ∧ Chg (fun k => k = fb) w w' := by
  obtain ⟨c0, c1, c2, c3, c4, c5, c6, c7, c8, c9, c10, c11⟩ := box_cells he
  obtain ⟨d0, d1, d2, d3, d4, d5, d6, d7⟩ := fbox_cells hf
  have f7 := hf.free 7
  have HF := Lib.hid (And.intro hf he)
  clear hf he
  go_enter Try.func113, Try.ntmps113
  go_wp2
  go_end0
  exact ⟨rfl, HF.out.1.set_ 7 _, (Chg.refl (fun k => k = fb) w).setCell (p := ⟨fb, 7, none⟩) (fun _ => rfl) _⟩
set_option maxRecDepth 100000 in
set_option maxHeartbeats 4000000 in
theorem geow_yes {w0 w : World} {g : Nat} {A : Option Addr} {n cap : Nat} {l : List Fr} {k : Nat} {out : List Fr} (h : LoomIn w0 w g A n cap l k out) (e : Ed) (eb : Nat) (he : Blk w eb 69 e.cells.toArray) (f : Fr) (hf : l[k]? = some f) (h63 : l.length ≤ 100000000) (hout : out.length ≤ 100000000) :
    Calls Try.prog 111 #[.pointer (some ⟨g, 0, none⟩), .func (Fn.func 112) #[] #[.pointer (some ⟨eb, 0, none⟩)]] w fun r w' => r = .returned (.bool true) ∧ LoomIn w0 w' g A n cap l (k + 1) (out ++ [geoF f e.f]) ∧ Kept w w' := by
  obtain ⟨A2, n2, c2, v, h⟩ := h
  obtain ⟨i0, hi0, hz, hz1, hz2⟩ := info_parts frInfo
  have hn := h.len.out
  rw [List.length_drop] at hn
  have hkl := (List.getElem?_eq_some_iff.1 hf).1
  have HN : Hid (Calls Try.prog 109 #[.pointer (some ⟨g, 0, none⟩), .int .i64 1] w fun e w' => e = .returned (.tuple #[.slice A2 1 c2, .bool true]) ∧ LoomAt w0 w' g A n cap l (k + 1) (cutA A2 c2 1 8) (n2 - 1) (c2 - 1) v out ∧ Chg (fun i => i = g) w w') := next_yes h 1 (by omega) (by omega)
  have HL := Lib.hid h.left
  have HE := Lib.hid (And.intro he (Blk.apart he h.blk (by decide)))
  have HBk := Lib.hid h.blk
  have HF : Hid ((l.drop k)[0]? = some f) := by rw [Hid, List.getElem?_drop]; exact hf
  have a1 : Hid (out.length + [geoF f e.f].length ≤ maxLen) := by rw [Hid]; simp [maxLen]; omega
  have a2 : Hid ((out.length + [geoF f e.f].length) * 72 ≤ 140737488355328) := by rw [Hid]; simp; omega
  clear h he hf
  go_enter Try.func111, Try.ntmps111
  go_wp2_with fail
  refine (HN.out).mono ?_; rintro r w1 ⟨rfl, h1, hch⟩
  obtain ⟨A3, n3, c3, rfl, _, _, _, _⟩ := h1.own.form
  have HE1 := Lib.hid (HE.out.1.chg hch HE.out.2)
  obtain ⟨vb, vo, rfl, hvb, y0, y1, y2, y3, y4, y5, y6, y7⟩ := FrSl.at_ (HL.out.below h1.be) HF.out
  simp only [Nat.zero_mul, Nat.add_zero] at y0 y1 y2 y3 y4 y5 y6 y7
  have H1 := Lib.hid h1
  have HK := Lib.hid (Kept.of_loom HBk.out hch)
  clear h1 hch
  go_wp2_with fail
  have HE2 : Hid (Blk (w1.alloc (.cells #[.int .i64 f.node, .int .i64 f.part, .int .i64 f.depth, .int .i64 f.x, .int .i64 f.y, .int .i64 f.w, .int .i64 f.h, .string f.text] 67)) eb 69 e.cells.toArray) := HE1.out.ext (below_a _ _)
  refine (geo1_any _ w1.heap.size eb f e (Blk.new w1 _ _) HE2.out).mono ?_; rintro r w3 ⟨rfl, hb3, hc3⟩
  have HK2 := Lib.hid ((Kept.of_ext (below_a w1 (.cells #[.int .i64 f.node, .int .i64 f.part, .int .i64 f.depth, .int .i64 f.x, .int .i64 f.y, .int .i64 f.w, .int .i64 f.h, .string f.text] 67))).trans (Kept.of_frag (Blk.new w1 _ _) hc3))
  have h3 := (H1.out.ext (below_a w1 (.cells #[.int .i64 f.node, .int .i64 f.part, .int .i64 f.depth, .int .i64 f.x, .int .i64 f.y, .int .i64 f.w, .int .i64 f.h, .string f.text] 67))).chg hc3 (fun i hi => by have := H1.out.be.size; omega) (fun e => by have := H1.out.blk.lt; omega) (fun b hb e => by have := H1.out.own.lt hb; omega)
  obtain ⟨q, hq⟩ : ∃ q, Hid (geoF f e.f = q) := ⟨_, rfl⟩
  rw [hq.out] at hb3 a1 a2
  obtain ⟨d0, d1, d2, d3, d4, d5, d6, d7⟩ := fbox_cells hb3
  generalize w1.heap.size = fb at *
  have HO3 : Hid (OwnA ((w3.alloc (.cells #[.int .i64 q.node, .int .i64 q.part, .int .i64 q.depth, .int .i64 q.x, .int .i64 q.y, .int .i64 q.w, .int .i64 q.h, .string q.text] 67)).drew) 67 8 Fr.cells (.slice A3 n3 c3) out) := (h3.own.ext (below_a _ _)).drew
  have HL3 : Hid (Sl ((w3.alloc (.cells #[.int .i64 q.node, .int .i64 q.part, .int .i64 q.depth, .int .i64 q.x, .int .i64 q.y, .int .i64 q.w, .int .i64 q.h, .string q.text] 67)).drew) (w3.alloc (.cells #[.int .i64 q.node, .int .i64 q.part, .int .i64 q.depth, .int .i64 q.x, .int .i64 q.y, .int .i64 q.w, .int .i64 q.h, .string q.text] 67)).heap.size 8 Fr.cells (some ⟨w3.heap.size, 0, none⟩) [q]) := fr_lit w3 q
  have HB3 : Hid (Blk ((w3.alloc (.cells #[.int .i64 q.node, .int .i64 q.part, .int .i64 q.depth, .int .i64 q.x, .int .i64 q.y, .int .i64 q.w, .int .i64 q.h, .string q.text] 67)).drew) g 118 _) := (h3.blk.ext (below_a _ _)).drew
  have e2 : w3.cell? ⟨g, 2, none⟩ = some (.slice A3 n3 c3) := h3.blk.cell 2
  have hgl := h3.blk.lt
  have hfl := hb3.lt
  have H3 := Lib.hid h3
  clear h3 hb3 hc3 y0 y1 y2 y3 y4 y5 y6 y7 hvb HL
  go_upto_region 5 with fail
  go_region_law ((refine step_append_a _ rfl _ _ _ rfl 67 i0 _ 8 72 Try.underlying59 hi0 hz hz1 hz2 rfl (by decide) Fr.cells_len Fr.cells_one (.slice A3 n3 c3) out (by rfl) HO3.out _ (some ⟨w3.heap.size, 0, none⟩) [q] 1 1 (by rfl) rfl HL3.out a1.out a2.out ?_; intro v' w4 hown hchg hat; obtain ⟨A4, n4, c4, rfl, _, _, _, _⟩ := hown.form; have hb4 := HB3.out.chg hchg (fun e => HO3.out.apart HB3.out (by decide) e); have m2 : w4.cell? ⟨g, 2, none⟩ = some (.slice A3 n3 c3) := hb4.cell 2; have q2 := hb4.free 2; have HP := Lib.hid (H3.out.put (below_a w3 (.cells #[.int .i64 q.node, .int .i64 q.part, .int .i64 q.depth, .int .i64 q.x, .int .i64 q.y, .int .i64 q.w, .int .i64 q.h, .string q.text] 67)).drew hown hchg hat); have HK3 := Lib.hid (H3.out.put_kept (.slice A4 n4 c4) (below_a w3 (.cells #[.int .i64 q.node, .int .i64 q.part, .int .i64 q.depth, .int .i64 q.x, .int .i64 q.y, .int .i64 q.w, .int .i64 q.h, .string q.text] 67)).drew hchg); clear hown hchg hat hb4))
  all_goals (
    go_wp2
    go_ret
    rw [hq.out]
    exact ⟨rfl, ⟨_, _, _, _, HP.out⟩, (HK.out.trans HK2.out).trans HK3.out⟩)
set_option maxHeartbeats 2000000 in
theorem geow_no {w0 w : World} {g : Nat} {A : Option Addr} {n cap : Nat} {l : List Fr} {k : Nat} {out : List Fr} (h : LoomIn w0 w g A n cap l k out) (eb : Nat) (hk : l.length ≤ k) (h63 : l.length ≤ 100000000) :
    Calls Try.prog 111 #[.pointer (some ⟨g, 0, none⟩), .func (Fn.func 112) #[] #[.pointer (some ⟨eb, 0, none⟩)]] w fun r w' => r = .returned (.bool false) ∧ Below w0.heap.size w0 w' ∧ Kept w w' := by
  obtain ⟨A2, n2, c2, v, h⟩ := h
  have hn := h.len.out
  rw [List.length_drop] at hn
  have HN := Lib.hid (next_no h 1 (by omega) (by omega))
  have HB := Lib.hid h.be
  clear h
  go_enter Try.func111, Try.ntmps111
  go_wp2_with fail
  refine (HN.out).mono ?_; rintro r w1 ⟨rfl, rfl⟩
  go_wp2
  go_ret
  exact ⟨rfl, HB.out, Kept.refl _⟩
set_option maxHeartbeats 2000000 in
theorem geo_yes {w0 w : World} {g : Nat} {A : Option Addr} {n cap : Nat} {l : List Fr} {k : Nat} {out : List Fr} (h : LoomIn w0 w g A n cap l k out) (e : Ed) (f : Fr) (hf : l[k]? = some f) (h63 : l.length ≤ 100000000) (hout : out.length ≤ 100000000) :
    Calls Try.prog 99 #[.pointer (some ⟨g, 0, none⟩), e.agg] w fun r w' => r = .returned (.bool true) ∧ LoomIn w0 w' g A n cap l (k + 1) (out ++ [geoF f e.f]) ∧ Kept w w' := by
  have HN := Lib.hid (geow_yes (h.ext (below_a w (.cells #[.int .u8 e.kind, .int .i64 e.n, .int .i64 e.node, .int .i64 e.part, .int .i64 e.f.node, .int .i64 e.f.part, .int .i64 e.f.depth, .int .i64 e.f.x, .int .i64 e.f.y, .int .i64 e.f.w, .int .i64 e.f.h, .string e.f.text] 69))) e w.heap.size (box_blk w e) f hf h63 hout)
  clear h
  unfold Ed.agg
  go_enter Try.func99, Try.ntmps99
  go_wp2_with fail
  refine (HN.out).mono ?_; rintro r w1 ⟨rfl, h1, hk1⟩
  have H1 := Lib.hid (And.intro h1 ((Kept.of_ext (below_a w (.cells #[.int .u8 e.kind, .int .i64 e.n, .int .i64 e.node, .int .i64 e.part, .int .i64 e.f.node, .int .i64 e.f.part, .int .i64 e.f.depth, .int .i64 e.f.x, .int .i64 e.f.y, .int .i64 e.f.w, .int .i64 e.f.h, .string e.f.text] 69))).trans hk1))
  clear h1 hk1
  go_wp2
  go_ret
  exact ⟨rfl, H1.out⟩
set_option maxHeartbeats 2000000 in
theorem geo_no {w0 w : World} {g : Nat} {A : Option Addr} {n cap : Nat} {l : List Fr} {k : Nat} {out : List Fr} (h : LoomIn w0 w g A n cap l k out) (e : Ed) (hk : l.length ≤ k) (h63 : l.length ≤ 100000000) :
    Calls Try.prog 99 #[.pointer (some ⟨g, 0, none⟩), e.agg] w fun r w' => r = .returned (.bool false) ∧ Below w0.heap.size w0 w' ∧ Kept w w' := by
  have HN := Lib.hid (geow_no (h.ext (below_a w (.cells #[.int .u8 e.kind, .int .i64 e.n, .int .i64 e.node, .int .i64 e.part, .int .i64 e.f.node, .int .i64 e.f.part, .int .i64 e.f.depth, .int .i64 e.f.x, .int .i64 e.f.y, .int .i64 e.f.w, .int .i64 e.f.h, .string e.f.text] 69))) w.heap.size hk h63)
  clear h
  unfold Ed.agg
  go_enter Try.func99, Try.ntmps99
  go_wp2_with fail
  refine (HN.out).mono ?_; rintro r w1 ⟨rfl, h1, hk1⟩
  have H1 := Lib.hid (And.intro h1 ((Kept.of_ext (below_a w (.cells #[.int .u8 e.kind, .int .i64 e.n, .int .i64 e.node, .int .i64 e.part, .int .i64 e.f.node, .int .i64 e.f.part, .int .i64 e.f.depth, .int .i64 e.f.x, .int .i64 e.f.y, .int .i64 e.f.w, .int .i64 e.f.h, .string e.f.text] 69))).trans hk1))
  clear h1 hk1
  go_wp2
  go_ret
  exact ⟨rfl, H1.out⟩
set_option maxRecDepth 100000 in
set_option maxHeartbeats 4000000 in
theorem txtw_yes {w0 w : World} {g : Nat} {A : Option Addr} {n cap : Nat} {l : List Fr} {k : Nat} {out : List Fr} (h : LoomIn w0 w g A n cap l k out) (e : Ed) (eb : Nat) (he : Blk w eb 69 e.cells.toArray) (f : Fr) (hf : l[k]? = some f) (h63 : l.length ≤ 100000000) (hout : out.length ≤ 100000000) :
    Calls Try.prog 111 #[.pointer (some ⟨g, 0, none⟩), .func (Fn.func 113) #[] #[.pointer (some ⟨eb, 0, none⟩)]] w fun r w' => r = .returned (.bool true) ∧ LoomIn w0 w' g A n cap l (k + 1) (out ++ [txtF f e.f]) ∧ Kept w w' := by
  obtain ⟨A2, n2, c2, v, h⟩ := h
  obtain ⟨i0, hi0, hz, hz1, hz2⟩ := info_parts frInfo
  have hn := h.len.out
  rw [List.length_drop] at hn
  have hkl := (List.getElem?_eq_some_iff.1 hf).1
  have HN : Hid (Calls Try.prog 109 #[.pointer (some ⟨g, 0, none⟩), .int .i64 1] w fun e w' => e = .returned (.tuple #[.slice A2 1 c2, .bool true]) ∧ LoomAt w0 w' g A n cap l (k + 1) (cutA A2 c2 1 8) (n2 - 1) (c2 - 1) v out ∧ Chg (fun i => i = g) w w') := next_yes h 1 (by omega) (by omega)
  have HL := Lib.hid h.left
  have HE := Lib.hid (And.intro he (Blk.apart he h.blk (by decide)))
  have HBk := Lib.hid h.blk
  have HF : Hid ((l.drop k)[0]? = some f) := by rw [Hid, List.getElem?_drop]; exact hf
  have a1 : Hid (out.length + [txtF f e.f].length ≤ maxLen) := by rw [Hid]; simp [maxLen]; omega
  have a2 : Hid ((out.length + [txtF f e.f].length) * 72 ≤ 140737488355328) := by rw [Hid]; simp; omega
  clear h he hf
  go_enter Try.func111, Try.ntmps111
  go_wp2_with fail
  refine (HN.out).mono ?_; rintro r w1 ⟨rfl, h1, hch⟩
  obtain ⟨A3, n3, c3, rfl, _, _, _, _⟩ := h1.own.form
  have HE1 := Lib.hid (HE.out.1.chg hch HE.out.2)
  obtain ⟨vb, vo, rfl, hvb, y0, y1, y2, y3, y4, y5, y6, y7⟩ := FrSl.at_ (HL.out.below h1.be) HF.out
  simp only [Nat.zero_mul, Nat.add_zero] at y0 y1 y2 y3 y4 y5 y6 y7
  have H1 := Lib.hid h1
  have HK := Lib.hid (Kept.of_loom HBk.out hch)
  clear h1 hch
  go_wp2_with fail
  have HE2 : Hid (Blk (w1.alloc (.cells #[.int .i64 f.node, .int .i64 f.part, .int .i64 f.depth, .int .i64 f.x, .int .i64 f.y, .int .i64 f.w, .int .i64 f.h, .string f.text] 67)) eb 69 e.cells.toArray) := HE1.out.ext (below_a _ _)
  refine (txt1_any _ w1.heap.size eb f e (Blk.new w1 _ _) HE2.out).mono ?_; rintro r w3 ⟨rfl, hb3, hc3⟩
  have HK2 := Lib.hid ((Kept.of_ext (below_a w1 (.cells #[.int .i64 f.node, .int .i64 f.part, .int .i64 f.depth, .int .i64 f.x, .int .i64 f.y, .int .i64 f.w, .int .i64 f.h, .string f.text] 67))).trans (Kept.of_frag (Blk.new w1 _ _) hc3))
  have h3 := (H1.out.ext (below_a w1 (.cells #[.int .i64 f.node, .int .i64 f.part, .int .i64 f.depth, .int .i64 f.x, .int .i64 f.y, .int .i64 f.w, .int .i64 f.h, .string f.text] 67))).chg hc3 (fun i hi => by have := H1.out.be.size; omega) (fun e => by have := H1.out.blk.lt; omega) (fun b hb e => by have := H1.out.own.lt hb; omega)
  obtain ⟨q, hq⟩ : ∃ q, Hid (txtF f e.f = q) := ⟨_, rfl⟩
  rw [hq.out] at hb3 a1 a2
  obtain ⟨d0, d1, d2, d3, d4, d5, d6, d7⟩ := fbox_cells hb3
  generalize w1.heap.size = fb at *
  have HO3 : Hid (OwnA ((w3.alloc (.cells #[.int .i64 q.node, .int .i64 q.part, .int .i64 q.depth, .int .i64 q.x, .int .i64 q.y, .int .i64 q.w, .int .i64 q.h, .string q.text] 67)).drew) 67 8 Fr.cells (.slice A3 n3 c3) out) := (h3.own.ext (below_a _ _)).drew
  have HL3 : Hid (Sl ((w3.alloc (.cells #[.int .i64 q.node, .int .i64 q.part, .int .i64 q.depth, .int .i64 q.x, .int .i64 q.y, .int .i64 q.w, .int .i64 q.h, .string q.text] 67)).drew) (w3.alloc (.cells #[.int .i64 q.node, .int .i64 q.part, .int .i64 q.depth, .int .i64 q.x, .int .i64 q.y, .int .i64 q.w, .int .i64 q.h, .string q.text] 67)).heap.size 8 Fr.cells (some ⟨w3.heap.size, 0, none⟩) [q]) := fr_lit w3 q
  have HB3 : Hid (Blk ((w3.alloc (.cells #[.int .i64 q.node, .int .i64 q.part, .int .i64 q.depth, .int .i64 q.x, .int .i64 q.y, .int .i64 q.w, .int .i64 q.h, .string q.text] 67)).drew) g 118 _) := (h3.blk.ext (below_a _ _)).drew
  have e2 : w3.cell? ⟨g, 2, none⟩ = some (.slice A3 n3 c3) := h3.blk.cell 2
  have hgl := h3.blk.lt
  have hfl := hb3.lt
  have H3 := Lib.hid h3
  clear h3 hb3 hc3 y0 y1 y2 y3 y4 y5 y6 y7 hvb HL
  go_upto_region 5 with fail
  go_region_law ((refine step_append_a _ rfl _ _ _ rfl 67 i0 _ 8 72 Try.underlying59 hi0 hz hz1 hz2 rfl (by decide) Fr.cells_len Fr.cells_one (.slice A3 n3 c3) out (by rfl) HO3.out _ (some ⟨w3.heap.size, 0, none⟩) [q] 1 1 (by rfl) rfl HL3.out a1.out a2.out ?_; intro v' w4 hown hchg hat; obtain ⟨A4, n4, c4, rfl, _, _, _, _⟩ := hown.form; have hb4 := HB3.out.chg hchg (fun e => HO3.out.apart HB3.out (by decide) e); have m2 : w4.cell? ⟨g, 2, none⟩ = some (.slice A3 n3 c3) := hb4.cell 2; have q2 := hb4.free 2; have HP := Lib.hid (H3.out.put (below_a w3 (.cells #[.int .i64 q.node, .int .i64 q.part, .int .i64 q.depth, .int .i64 q.x, .int .i64 q.y, .int .i64 q.w, .int .i64 q.h, .string q.text] 67)).drew hown hchg hat); have HK3 := Lib.hid (H3.out.put_kept (.slice A4 n4 c4) (below_a w3 (.cells #[.int .i64 q.node, .int .i64 q.part, .int .i64 q.depth, .int .i64 q.x, .int .i64 q.y, .int .i64 q.w, .int .i64 q.h, .string q.text] 67)).drew hchg); clear hown hchg hat hb4))
  all_goals (
    go_wp2
    go_ret
    rw [hq.out]
    exact ⟨rfl, ⟨_, _, _, _, HP.out⟩, (HK.out.trans HK2.out).trans HK3.out⟩)
set_option maxHeartbeats 2000000 in
theorem txtw_no {w0 w : World} {g : Nat} {A : Option Addr} {n cap : Nat} {l : List Fr} {k : Nat} {out : List Fr} (h : LoomIn w0 w g A n cap l k out) (eb : Nat) (hk : l.length ≤ k) (h63 : l.length ≤ 100000000) :
    Calls Try.prog 111 #[.pointer (some ⟨g, 0, none⟩), .func (Fn.func 113) #[] #[.pointer (some ⟨eb, 0, none⟩)]] w fun r w' => r = .returned (.bool false) ∧ Below w0.heap.size w0 w' ∧ Kept w w' := by
  obtain ⟨A2, n2, c2, v, h⟩ := h
  have hn := h.len.out
  rw [List.length_drop] at hn
  have HN := Lib.hid (next_no h 1 (by omega) (by omega))
  have HB := Lib.hid h.be
  clear h
  go_enter Try.func111, Try.ntmps111
  go_wp2_with fail
  refine (HN.out).mono ?_; rintro r w1 ⟨rfl, rfl⟩
  go_wp2
  go_ret
  exact ⟨rfl, HB.out, Kept.refl _⟩
set_option maxHeartbeats 2000000 in
theorem txt_yes {w0 w : World} {g : Nat} {A : Option Addr} {n cap : Nat} {l : List Fr} {k : Nat} {out : List Fr} (h : LoomIn w0 w g A n cap l k out) (e : Ed) (f : Fr) (hf : l[k]? = some f) (h63 : l.length ≤ 100000000) (hout : out.length ≤ 100000000) :
    Calls Try.prog 100 #[.pointer (some ⟨g, 0, none⟩), e.agg] w fun r w' => r = .returned (.bool true) ∧ LoomIn w0 w' g A n cap l (k + 1) (out ++ [txtF f e.f]) ∧ Kept w w' := by
  have HN := Lib.hid (txtw_yes (h.ext (below_a w (.cells #[.int .u8 e.kind, .int .i64 e.n, .int .i64 e.node, .int .i64 e.part, .int .i64 e.f.node, .int .i64 e.f.part, .int .i64 e.f.depth, .int .i64 e.f.x, .int .i64 e.f.y, .int .i64 e.f.w, .int .i64 e.f.h, .string e.f.text] 69))) e w.heap.size (box_blk w e) f hf h63 hout)
  clear h
  unfold Ed.agg
  go_enter Try.func100, Try.ntmps100
  go_wp2_with fail
  refine (HN.out).mono ?_; rintro r w1 ⟨rfl, h1, hk1⟩
  have H1 := Lib.hid (And.intro h1 ((Kept.of_ext (below_a w (.cells #[.int .u8 e.kind, .int .i64 e.n, .int .i64 e.node, .int .i64 e.part, .int .i64 e.f.node, .int .i64 e.f.part, .int .i64 e.f.depth, .int .i64 e.f.x, .int .i64 e.f.y, .int .i64 e.f.w, .int .i64 e.f.h, .string e.f.text] 69))).trans hk1))
  clear h1 hk1
  go_wp2
  go_ret
  exact ⟨rfl, H1.out⟩
set_option maxHeartbeats 2000000 in
theorem txt_no {w0 w : World} {g : Nat} {A : Option Addr} {n cap : Nat} {l : List Fr} {k : Nat} {out : List Fr} (h : LoomIn w0 w g A n cap l k out) (e : Ed) (hk : l.length ≤ k) (h63 : l.length ≤ 100000000) :
    Calls Try.prog 100 #[.pointer (some ⟨g, 0, none⟩), e.agg] w fun r w' => r = .returned (.bool false) ∧ Below w0.heap.size w0 w' ∧ Kept w w' := by
  have HN := Lib.hid (txtw_no (h.ext (below_a w (.cells #[.int .u8 e.kind, .int .i64 e.n, .int .i64 e.node, .int .i64 e.part, .int .i64 e.f.node, .int .i64 e.f.part, .int .i64 e.f.depth, .int .i64 e.f.x, .int .i64 e.f.y, .int .i64 e.f.w, .int .i64 e.f.h, .string e.f.text] 69))) w.heap.size hk h63)
  clear h
  unfold Ed.agg
  go_enter Try.func100, Try.ntmps100
  go_wp2_with fail
  refine (HN.out).mono ?_; rintro r w1 ⟨rfl, h1, hk1⟩
  have H1 := Lib.hid (And.intro h1 ((Kept.of_ext (below_a w (.cells #[.int .u8 e.kind, .int .i64 e.n, .int .i64 e.node, .int .i64 e.part, .int .i64 e.f.node, .int .i64 e.f.part, .int .i64 e.f.depth, .int .i64 e.f.x, .int .i64 e.f.y, .int .i64 e.f.w, .int .i64 e.f.h, .string e.f.text] 69))).trans hk1))
  clear h1 hk1
  go_wp2
  go_ret
  exact ⟨rfl, H1.out⟩
end Go.Proofs.Ytiljpbncfofnhaa.EdF
