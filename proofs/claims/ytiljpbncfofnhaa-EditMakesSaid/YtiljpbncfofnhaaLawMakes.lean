/- EditMakes: what any edits make of any fragments, and whether each may be, is what the document says; what is handed in stays, what is told is the caller's own: whatever the input, the law returns true and leaves its arguments as they were. -/
import Derived.Test.YtiljpbncfofnhaaEdL
import Derived.Test.YtiljpbncfofnhaaEdM
import Derived.Outline
import Derived.BigQuiet
import Derived.Deep.QuietTactic
import Derived.Deep.RegionWith
import Derived.Deep.RegionHeld3
import Derived.Deep.DrawnRows
import Derived.Deep.LoopGhost
import Derived.Deep.DeepCutAuto
import Derived.Laws.EntriesVeiled
import Derived.BigQuiet
namespace Go.Proofs.Ytiljpbncfofnhaa.lawMakes
open Go.RowKit Go.ChangeShapes Go.WideShapes Go.ChangeAt
set_option linter.unusedVariables false
set_option linter.unusedSimpArgs false
attribute [local go_sem ↓] Go.wp_at_zero Go.wp_at_succ
open FragA FragB MayA Tree FCheck EdB EdC EdF

theorem own_sl {w w' : World} {e : TypeId} {c : Nat} {α : Type} {enc : α → List Value} {l : List α} {r : Ending} (he : ∀ x, (enc x).length = c) (h : RetOwn w e c enc l r w') : ∃ A cap, r = .returned (.slice A l.length cap) ∧ Sl w' w'.heap.size c enc A l ∧ l.length ≤ cap ∧ Below w.heap.size w w' := by
  obtain ⟨v, rfl, ho, hb⟩ := h
  obtain ⟨A, n, cap, rfl, hn, hle, _⟩ := ho.form
  obtain rfl := hn.out
  exact ⟨A, cap, rfl, ho.sls he, hle, hb⟩
theorem ap_sl {w w' : World} {xl : List Fr} {xe : Int} {r : Ending} (h : RetAp w (xl, xe) r w') : ∃ A cap, r = .returned (.tuple #[.slice A xl.length cap, .int .i64 xe]) ∧ OwnA w' 67 8 Fr.cells (.slice A xl.length cap) xl ∧ (∀ b, (Value.slice A xl.length cap).ownBlock = some b → w.heap.size ≤ b) ∧ Below w.heap.size w w' ∧ xl.length ≤ maxLen := by
  obtain ⟨A, n, cap, rfl, ho, hf, hb⟩ := h
  obtain rfl := ho.len
  obtain ⟨A2, n2, c2, hv, hn2, h1, h2, _⟩ := ho.form
  injection hv with e1 e2 e3
  subst e3
  exact ⟨A, cap, rfl, ho, hf, hb, by have h9 : n2 = xl.length := hn2.out; omega⟩
/-- the law's own copies and what the document made, as they stand since W1 -/
structure Em (W1 wr : World) (Am As Aw : Option Addr) (l : List Fr) (es : List Ed) (xl : List Fr) : Prop where
  mine : FrSl W1 W1.heap.size Am l
  steps : EdSl W1 W1.heap.size As es
  want : FrSl W1 W1.heap.size Aw xl
  be : Below W1.heap.size W1 wr
theorem slw {α : Type} {c : Nat} {enc : α → List Value} {W1 wr : World} {A : Option Addr} {l : List α} (h : Sl W1 W1.heap.size c enc A l) (hb : Below W1.heap.size W1 wr) : Sl wr wr.heap.size c enc A l := (h.below hb).more hb.size
set_option maxRecDepth 100000 in
set_option maxHeartbeats 8000000 in
theorem walk (l : List Fr) (es : List Ed) (A : Option Addr) (cap : Nat) (B : Option Addr) (cb : Nat) (w : World) (hl : FrSl w w.heap.size A l) (h63 : l.length ≤ maxLen) (hw : FrsWf l) (he : EdSl w w.heap.size B es) (m63 : es.length ≤ maxLen) (hew : EdsWf es) :
    Calls Try.prog 5 #[.slice A l.length cap, .slice B es.length cb] w fun e w' => e = .returned (.bool true) ∧ Below w.heap.size w w' := by
  have G1 := Lib.hid (great_any l A cap w hl h63 hw)
  have G2 := Lib.hid (greatE_any es B cb w he m63 hew)
  have HL := Lib.hid (And.intro hl (And.intro hw (And.intro he hew)))
  clear hl hw he hew
  cases g1 : greatFrom 0 0 l with
  | true =>
    rw [g1] at G1
    clear g1
    go_enter Try.func5, Try.ntmps5
    go_wp2_with fail
    refine (G1.out).mono ?_; rintro e w' ⟨rfl, rfl⟩
    go_wp2
    go_ret
    exact ⟨rfl, Below.refl _ _⟩
  | false =>
    rw [g1] at G1
    have hl200 := great_le g1
    clear g1
    cases g2 : greatE 0 0 es with
    | true =>
      rw [g2] at G2
      clear g2
      go_enter Try.func5, Try.ntmps5
      go_wp2_with fail
      refine (G1.out).mono ?_; rintro e w' ⟨rfl, rfl⟩
      go_wp2_with fail
      refine (G2.out).mono ?_; rintro e w' ⟨rfl, rfl⟩
      go_wp2
      go_ret
      exact ⟨rfl, Below.refl _ _⟩
    | false =>
      rw [g2] at G2
      have hm200 := greatE_le g2
      clear g2
      obtain ⟨xl, xe, hx⟩ : ∃ xl xe, Hid (applyE l es = (xl, xe)) := ⟨_, _, rfl⟩
      obtain ⟨n, hn⟩ : ∃ n, Hid (l.length = n) := ⟨_, rfl⟩
      obtain ⟨m, hm⟩ : ∃ m, Hid (es.length = m) := ⟨_, rfl⟩
      have hn200 : n ≤ 200 := by have := hn.out; omega
      have hm200' : m ≤ 200 := by have := hm.out; omega
      rw [hn.out] at G1 ⊢
      rw [hm.out] at G2 ⊢
      clear hl200 hm200 h63 m63
      have C1 := Lib.hid (copy_any l A cap w HL.out.1 (by rw [hn.out]; omega))
      rw [hn.out] at C1
      go_enter Try.func5, Try.ntmps5
      go_wp2_with fail
      refine (G1.out).mono ?_; rintro e w' ⟨rfl, rfl⟩
      go_wp2_with fail
      refine (G2.out).mono ?_; rintro e w' ⟨rfl, rfl⟩
      go_wp2_with fail
      refine (C1.out).mono ?_; rintro e w2 hr2
      obtain ⟨Am, cm, rfl, hs2, hc2, hb2⟩ := own_sl Fr.cells_len hr2
      rw [hn.out] at hc2 ⊢
      have H2 := Lib.hid (And.intro hs2 hb2)
      clear hs2 hb2 hr2
      have C2 := Lib.hid (rcopy_any es B cb w2 (slw HL.out.2.2.1 H2.out.2) (by rw [hm.out]; omega))
      rw [hm.out] at C2
      go_wp2_with fail
      refine (C2.out).mono ?_; rintro e w3 hr3
      obtain ⟨As, cs, rfl, hs3, hc3, hb3⟩ := own_sl Ed.cells_len hr3
      rw [hm.out] at hc3 ⊢
      have H3 := Lib.hid (And.intro hs3 hb3)
      have HB3 : Hid (Below w.heap.size w w3) := H2.out.2.trans (hb3.mono H2.out.2.size)
      have HM3 : Hid (FrSl w3 w3.heap.size Am l) := slw H2.out.1 hb3
      clear hs3 hb3 hr3
      go_wp2_with fail
      go_loopg [7] m (fun gk v7 wr => ∃ j : Nat, m ≤ j + gk ∧ j ≤ m ∧ v7 = .int .i64 (j : Int) ∧ Hid (Below w3.heap.size w3 wr))
      case atStart => exact ⟨0, by omega, by omega, rfl, Below.refl _ _⟩
      case round =>
        obtain ⟨j, hgk, hj, rfl, hB⟩ := hrel
        by_cases hlt : j < m
        · have hjl : j < es.length := by rw [hm.out]; exact hlt
          have hxx := List.getElem?_eq_getElem hjl
          have HWe := Lib.hid (HL.out.2.2.2 _ (List.getElem_mem hjl))
          obtain ⟨bb, off, rfl, hbb, c0, c1, c2, c3, c4, c5, c6, c7, c8, c9, c10, c11⟩ := EdSl.at_ (slw H3.out.1 hB.out) hxx
          obtain ⟨ub, uo, rfl, hub, d0, d1, d2, d3, d4, d5, d6, d7, d8, d9, d10, d11⟩ := EdSl.at_ (slw HL.out.2.2.1 (HB3.out.trans (hB.out.mono HB3.out.size))) hxx
          have b1 : (0 : Int) ≤ (j : Int) := Int.natCast_nonneg _
          have b2 : (j : Int) < (m : Int) := by omega
          generalize es[j] = e at *
          clear hxx
          obtain ⟨bm, hbm⟩ : ∃ b, Hid (mayE e = b) := ⟨_, rfl⟩
          have HM := fun W => Lib.hid (by have h := EdC.may_any e W HWe.out; rw [hbm.out] at h; unfold Ed.agg at h; exact h)
          have HR := fun W => Lib.hid (by have h := EdC.rmay_any e W HWe.out; rw [hbm.out] at h; unfold Ed.agg at h; exact h)
          have t1 : (bm != bm) = false := by cases bm <;> rfl
          have t2 : (bm == bm) = true := by cases bm <;> rfl
          go_upto_region 7 with fail
          refine Uni.region (last := 11) (S := fun w' => Below wr.heap.size wr w') (by kernel_rfl) ((Below.refl _ _).drew) ?_
          try simp only [Act.put, List.setIfInBounds_toArray, List.set_cons_zero, List.set_cons_succ]
          (refine Uni.WU.take (i := 0) (oi := { dst := some 30, op := _, type := _, pos := _, after := _, guard := _ }) (v := ?_) rfl (by kernel_rfl) (by kernel_rfl) (by decide) (by kernel_rfl) (by kernel_rfl) (Uni.Uni.run (by kernel_rfl) (by intro W' hS'; obtain ⟨hq1, hq2⟩ := bcellD hS'; go_simp; try with_reducible rfl)) ?_; (try simp only [Act.put, List.setIfInBounds_toArray, List.set_cons_zero, List.set_cons_succ]))
          (refine Uni.WU.take (i := 1) (oi := { dst := some 31, op := _, type := _, pos := _, after := _, guard := _ }) (v := ?_) rfl (by kernel_rfl) (by kernel_rfl) (by decide) (by kernel_rfl) (by kernel_rfl) (Uni.Uni.run (by kernel_rfl) (by intro W' hS'; obtain ⟨hq1, hq2⟩ := bcellD hS'; go_simp; try with_reducible rfl)) ?_; (try simp only [Act.put, List.setIfInBounds_toArray, List.set_cons_zero, List.set_cons_succ]))
          (refine Uni.WU.take (i := 2) (oi := { dst := some 32, op := _, type := _, pos := _, after := _, guard := _ }) (v := ?_) rfl (by kernel_rfl) (by kernel_rfl) (by decide) (by kernel_rfl) (by kernel_rfl) (Uni.Uni.run (by kernel_rfl) (by intro W' hS'; obtain ⟨hq1, hq2⟩ := bcellD hS'; go_simp; try with_reducible rfl)) ?_; (try simp only [Act.put, List.setIfInBounds_toArray, List.set_cons_zero, List.set_cons_succ]))
          (refine Uni.WU.take (i := 3) (oi := { dst := some 33, op := _, type := _, pos := _, after := _, guard := _ }) (v := ?_) rfl (by kernel_rfl) (by kernel_rfl) (by decide) (by kernel_rfl) (by kernel_rfl) (Uni.Uni.run (by kernel_rfl) (by intro W' hS'; obtain ⟨hq1, hq2⟩ := bcellD hS'; go_simp; try with_reducible rfl)) ?_; (try simp only [Act.put, List.setIfInBounds_toArray, List.set_cons_zero, List.set_cons_succ]))
          (refine Uni.WU.take (i := 4) (oi := { dst := some 34, op := _, type := _, pos := _, after := _, guard := _ }) (v := _) rfl (by kernel_rfl) (by kernel_rfl) (by decide) (by kernel_rfl) (by kernel_rfl) (Uni.Uni.call (by kernel_rfl) (by intro W' hS'; go_simp; try with_reducible rfl) (fun W' hS' => ((HM W').out).mono fun e w' h => ⟨h.1, ext_under hS' (Nat.le_refl _) h.2⟩)) ?_; (try simp only [Act.put, List.setIfInBounds_toArray, List.set_cons_zero, List.set_cons_succ]))
          (refine Uni.WU.take (i := 5) (oi := { dst := some 35, op := _, type := _, pos := _, after := _, guard := _ }) (v := ?_) rfl (by kernel_rfl) (by kernel_rfl) (by decide) (by kernel_rfl) (by kernel_rfl) (Uni.Uni.run (by kernel_rfl) (by intro W' hS'; obtain ⟨hq1, hq2⟩ := bcellD hS'; go_simp; try with_reducible rfl)) ?_; (try simp only [Act.put, List.setIfInBounds_toArray, List.set_cons_zero, List.set_cons_succ]))
          (refine Uni.WU.take (i := 6) (oi := { dst := some 36, op := _, type := _, pos := _, after := _, guard := _ }) (v := ?_) rfl (by kernel_rfl) (by kernel_rfl) (by decide) (by kernel_rfl) (by kernel_rfl) (Uni.Uni.run (by kernel_rfl) (by intro W' hS'; obtain ⟨hq1, hq2⟩ := bcellD hS'; go_simp; try with_reducible rfl)) ?_; (try simp only [Act.put, List.setIfInBounds_toArray, List.set_cons_zero, List.set_cons_succ]))
          (refine Uni.WU.take (i := 7) (oi := { dst := some 37, op := _, type := _, pos := _, after := _, guard := _ }) (v := ?_) rfl (by kernel_rfl) (by kernel_rfl) (by decide) (by kernel_rfl) (by kernel_rfl) (Uni.Uni.run (by kernel_rfl) (by intro W' hS'; obtain ⟨hq1, hq2⟩ := bcellD hS'; go_simp; try with_reducible rfl)) ?_; (try simp only [Act.put, List.setIfInBounds_toArray, List.set_cons_zero, List.set_cons_succ]))
          (refine Uni.WU.take (i := 8) (oi := { dst := some 38, op := _, type := _, pos := _, after := _, guard := _ }) (v := ?_) rfl (by kernel_rfl) (by kernel_rfl) (by decide) (by kernel_rfl) (by kernel_rfl) (Uni.Uni.run (by kernel_rfl) (by intro W' hS'; obtain ⟨hq1, hq2⟩ := bcellD hS'; go_simp; try with_reducible rfl)) ?_; (try simp only [Act.put, List.setIfInBounds_toArray, List.set_cons_zero, List.set_cons_succ]))
          (refine Uni.WU.take (i := 9) (oi := { dst := some 39, op := _, type := _, pos := _, after := _, guard := _ }) (v := _) rfl (by kernel_rfl) (by kernel_rfl) (by decide) (by kernel_rfl) (by kernel_rfl) (Uni.Uni.call (by kernel_rfl) (by intro W' hS'; go_simp; try with_reducible rfl) (fun W' hS' => ((HR W').out).mono fun e w' h => ⟨h.1, ext_under hS' (Nat.le_refl _) h.2⟩)) ?_; (try simp only [Act.put, List.setIfInBounds_toArray, List.set_cons_zero, List.set_cons_succ]))
          (refine Uni.WU.take (i := 10) (oi := { dst := some 40, op := _, type := _, pos := _, after := _, guard := _ }) (v := ?_) rfl (by kernel_rfl) (by kernel_rfl) (by decide) (by kernel_rfl) (by kernel_rfl) (Uni.Uni.run (by kernel_rfl) (by intro W' hS'; obtain ⟨hq1, hq2⟩ := bcellD hS'; go_simp; try with_reducible rfl)) ?_; (try simp only [Act.put, List.setIfInBounds_toArray, List.set_cons_zero, List.set_cons_succ]))
          refine Uni.WU.done (by kernel_rfl) (fun wz hz => ?_) _
          have HZ : Hid (Below w3.heap.size w3 wz) := hB.out.trans (hz.mono hB.out.size)
          clear hz
          go_wp2
          go_roundg (gk - 1)
          case measure => omega
          case rel => exact ⟨j + 1, by omega, by omega, by go_num, HZ.out⟩
        · have b2 : ¬ (j : Int) < (m : Int) := by omega
          have b5 : decide (j < m) = false := decide_eq_false hlt
          have HBw : Hid (Below w.heap.size w wr) := HB3.out.trans (hB.out.mono HB3.out.size)
          have AP := Lib.hid (rapply_any l es A n cap B m cb wr (slw HL.out.1 HBw.out) HL.out.2.1 hn.out.symm (slw HL.out.2.2.1 HBw.out) HL.out.2.2.2 hm.out.symm (by rw [hn.out]; omega) (by unfold maxLen; omega))
          rw [hx.out] at AP
          clear hlt hj hgk
          go_wp2_with fail
          refine (AP.out).mono ?_; rintro e W1 hr4
          obtain ⟨Aw, cw, rfl, ho4, hf4, hb4, hx63⟩ := ap_sl hr4
          have E1 : Hid (Em W1 W1 Am As Aw l es xl) := ⟨slw HM3.out (hB.out.trans (hb4.mono hB.out.size)), slw H3.out.1 (hB.out.trans (hb4.mono hB.out.size)), ho4.sl Fr.cells_len, Below.refl _ _⟩
          have HBw1 : Hid (Below w.heap.size w W1) := HBw.out.trans (hb4.mono HBw.out.size)
          clear ho4 hf4 hb4 hr4 AP
          obtain ⟨q, hq⟩ : ∃ q, Hid (xl.length = q) := ⟨_, rfl⟩
          rw [hq.out] at hx63 ⊢
          go_wp2_with fail
          have SW := fun W (hW : Below W1.heap.size W1 W) (A5 : Option Addr) (c5 : Nat) (h5 : FrSl W W.heap.size A5 xl) => Lib.hid (by have h := FragB.rsame_any xl xl A5 Aw c5 cw W h5 (slw E1.out.want hW) (by rw [hq.out]; exact hx63) (by rw [hq.out]; exact hx63); rw [eqL_self, hq.out] at h; exact h)
          have SM := fun W (hW : Below W1.heap.size W1 W) => Lib.hid (by have h := FragB.rsame_any l l Am A cm cap W (slw E1.out.mine hW) (slw HL.out.1 (HBw1.out.trans (hW.mono HBw1.out.size))) (by rw [hn.out]; unfold maxLen; omega) (by rw [hn.out]; unfold maxLen; omega); rw [eqL_self, hn.out] at h; exact h)
          have SE := fun W (hW : Below W1.heap.size W1 W) => Lib.hid (by have h := EdB.rsame_any es es As B cs cb W (slw E1.out.steps hW) (slw HL.out.2.2.1 (HBw1.out.trans (hW.mono HBw1.out.size))) (by rw [hm.out]; unfold maxLen; omega) (by rw [hm.out]; unfold maxLen; omega); rw [eqE_self, hm.out] at h; exact h)
          have t1 : (xe != xe) = false := by simp
          go_loopg [10] 2 (fun gk v10 wr => ∃ t : Nat, 2 ≤ t + gk ∧ t ≤ 2 ∧ v10 = .int .i64 (t : Int) ∧ Hid (Below W1.heap.size W1 wr))
          case atStart => exact ⟨0, by omega, by omega, rfl, Below.refl _ _⟩
          case round =>
            obtain ⟨t, hgt, ht, rfl, hB2⟩ := hrel
            by_cases htl : t < 2
            · have AQ := Lib.hid (apply_any l es Am n cm As m cs wr (slw E1.out.mine hB2.out) HL.out.2.1 hn.out.symm (slw E1.out.steps hB2.out) HL.out.2.2.2 hm.out.symm (by rw [hn.out]; omega) (by unfold maxLen; omega) hc2)
              rw [hx.out] at AQ
              have b7 : (t : Int) < 2 := by omega
              go_wp2_with fail
              refine (AQ.out).mono ?_; rintro e W5 hr5
              obtain ⟨Ag, cg, rfl, ho5, hf5, hb5, _⟩ := ap_sl hr5
              rw [hq.out] at ho5 hf5 ⊢
              have O5 := Lib.hid (And.intro ho5 hf5)
              have B5 : Hid (Below W1.heap.size W1 W5) := hB2.out.trans (hb5.mono hB2.out.size)
              have hsz := hb5.size
              have hwr := hB2.out.size
              have G5 : Hid (∀ b, (Value.slice Ag q cg).ownBlock = some b → W1.heap.size ≤ b) := fun b hb => Nat.le_trans hwr (hf5 b hb)
              clear ho5 hf5 hb5 hr5 AQ hsz hwr
              go_wp2_with fail
              refine ((SW W5 B5.out Ag cg (O5.out.1.sl Fr.cells_len)).out).mono ?_; rintro e W6 ⟨rfl, hb6⟩
              have O6 := Lib.hid (O5.out.1.ext hb6)
              have B6 : Hid (Below W1.heap.size W1 W6) := B5.out.trans (hb6.mono B5.out.size)
              clear hb6 O5
              go_wp2_with fail
              refine ((SM W6 B6.out).out).mono ?_; rintro e W7 ⟨rfl, hb7⟩
              have O7 := Lib.hid (O6.out.ext hb7)
              have B7 : Hid (Below W1.heap.size W1 W7) := B6.out.trans (hb7.mono B6.out.size)
              clear hb7 O6
              go_wp2_with fail
              refine ((SE W7 B7.out).out).mono ?_; rintro e W8 ⟨rfl, hb8⟩
              have O8 := Lib.hid (O7.out.ext hb8)
              have B8 : Hid (Below W1.heap.size W1 W8) := B7.out.trans (hb8.mono B7.out.size)
              clear hb8 O7
              generalize gk = gq at *
              generalize wr = Wq at *
              unfold maxLen at hx63
              go_wp2_with fail
              go_loopg [13] q (fun gk v13 wr => ∃ (i : Nat) (xs : List Fr), q ≤ i + gk ∧ i ≤ q ∧ v13 = .int .i64 (i : Int) ∧ Hid (OwnA wr 67 8 Fr.cells (.slice Ag q cg) xs ∧ Below W1.heap.size W1 wr))
              case atStart => exact ⟨0, xl, by omega, by omega, rfl, O8.out, B8.out⟩
              case round =>
                obtain ⟨i, xs, hgi, hi, rfl, hO⟩ := hrel
                by_cases hil : i < q
                · have hixs : i < xs.length := by have h := hO.out.1.len; omega
                  have hxi := List.getElem?_eq_getElem hixs
                  obtain ⟨vb, vo, rfl, hvb, y0, y1, y2, y3, y4, y5, y6, y7⟩ := FrSl.at_ (hO.out.1.sl Fr.cells_len) hxi
                  obtain ⟨off', cap', cur, hv, hgg, _⟩ := hO.out.1.row (g := vb) rfl
                  have fz : wr.frozen? ⟨vb, vo + i * 8 + 2, none⟩ = false := frozen_of_row wr vb _ cur _ hgg
                  have HS : Hid (OwnA (wr.setCell ⟨vb, vo + i * 8 + 2, none⟩ (.int .i64 99)) 67 8 Fr.cells (.slice (some ⟨vb, vo, none⟩) q cg) (xs.set i ⟨xs[i].node, xs[i].part, 99, xs[i].x, xs[i].y, xs[i].w, xs[i].h, xs[i].text⟩) ∧ Below W1.heap.size W1 (wr.setCell ⟨vb, vo + i * 8 + 2, none⟩ (.int .i64 99))) :=
                    ⟨hO.out.1.store Fr.cells_len hxi (by omega) rfl, hO.out.2.setCell (by simpa using G5.out vb rfl) _⟩
                  have e1 : (0 : Int) ≤ (i : Int) := Int.natCast_nonneg _
                  have e2 : (i : Int) < (q : Int) := by omega
                  clear hv hgg hxi hO y0 y1 y3 y4 y5 y6 y7
                  go_wp2
                  go_roundg (gk - 1)
                  case measure => omega
                  case rel => exact ⟨i + 1, _, by omega, by omega, by go_num, HS.out⟩
                · have e2 : ¬ (i : Int) < (q : Int) := by omega
                  have e5 : decide (i < q) = false := decide_eq_false hil
                  have HN := Lib.hid hO.out.2
                  clear hO
                  go_wp2
                  go_roundg (gq - 1)
                  case measure => omega
                  case rel => exact ⟨t + 1, by omega, by omega, by go_num, HN.out⟩
            · obtain rfl : t = 2 := by omega
              have P1 := Lib.hid (by have h := EdB.puts_any es As cs wr (slw E1.out.steps hB2.out) (by rw [hm.out]; unfold maxLen; omega); rw [hm.out] at h; exact h)
              have hBw2 : Hid (Below w.heap.size w wr) := HBw1.out.trans (hB2.out.mono HBw1.out.size)
              obtain ⟨pp, hpp⟩ : ∃ p : Nat, Hid (putsE es = p) := ⟨_, rfl⟩
              rw [hpp.out] at P1
              have t2 : ((pp : Int) == (pp : Int)) = true := by simp
              clear SW SM SE
              go_wp2_with fail
              refine (P1.out).mono ?_; rintro e W9 ⟨rfl, hb9⟩
              have hBw9 : Hid (Below w.heap.size w W9) := hBw2.out.trans (hb9.mono hBw2.out.size)
              clear hb9
              have P2 := Lib.hid (by have h := EdF.rputs_any es B cb W9 (slw HL.out.2.2.1 hBw9.out) (by rw [hm.out]; unfold maxLen; omega); rw [hm.out, hpp.out] at h; exact h)
              go_wp2_with fail
              refine (P2.out).mono ?_; rintro e w' ⟨rfl, rfl⟩
              go_wp2
              go_ret
              exact ⟨rfl, hBw9.out⟩
set_option maxRecDepth 100000 in
theorem lifted (os : Os) (started : os.Started) (H : Type) (enc : TypeId × Value → H) :
    ReturnsInHanded {} Try.checked os 5 .any (Rows.editMakesSpec.pre6 enc Try.prog Try.f5 Rows.editMakesRow.domain false) (Rows.editMakesSpec.post enc Try.prog Try.f5 false true false false) := by
  refine returnsInHanded_of_change_sized (C := Try.checked) own started (by kernel_rfl) Try.func5
    (ChangeSpec.witness6 (enc := enc) (C := Try.checked) false ⟨#[], #[.slice none 0 0, .slice none 0 0], []⟩ 8 (by kernel_rfl) (by kernel_rfl) (by kernel_rfl) (by kernel_rfl)) ?_
  intro W base args ds gs before hval0 hW hcnd hsz0 _
  have hval : ∀ (j : Nat) t v, Try.f5.params[j]? = some t → args[j]? = some v → Value.okWide Try.prog W .any base t v := hval0
  have hW' := hW
  obtain ⟨p, q, hA0, hV, rfl, hfz, hnd⟩ := hW
  have hA : DataW.TrodAll enc Try.prog W 0 (fun _ => true) true Try.f5.params.toList args.toList ds p := hA0
  have hsz : (DataW.weightsEach Try.prog (Try.f5.params.toList ++ []) (ds ++ gs)).all (· ≤ reachBytes) = true := hsz0
  rw [Try.params5] at hA hval hsz
  have hAll := hA
  obtain ⟨v0, vs0, d0, ds0, p0, q0, hargs, rfl, rfl, h0, r0⟩ := trodAll_cons hA
  obtain ⟨v1, vs1, d1, ds1, p1, q1, rfl, rfl, rfl, h1, r1⟩ := trodAll_cons r0
  obtain ⟨rfl, rfl, rfl⟩ := trodAll_nil r1
  obtain rfl : args = #[v0, v1] := by cases args; simp_all
  obtain ⟨rfl, rfl⟩ := trodVars_none hV
  obtain ⟨l_A, l, l_cap, rfl, l_sl, l_ok, l_le, l_max, l_reach, l_nil⟩ := open_sl Try.underlying59 (c := 8) (by kernel_rfl) (by decide) opens_fr (hval 0 59 v0 rfl rfl) h0 (light_of hsz (j := 0) rfl rfl)
  obtain ⟨es_A, es, es_cap, rfl, es_sl, es_ok, es_le, es_max, es_reach, es_nil⟩ := open_sl Try.underlying60 (c := 12) (by kernel_rfl) (by decide) opens_ed (hval 1 60 v1 rfl rfl) h1 (light_of hsz (j := 1) rfl rfl)
  refine (walk l es l_A l_cap es_A es_cap W l_sl (Nat.le_trans l_le l_max) l_ok es_sl (Nat.le_trans es_le es_max) es_ok).mono fun e W' ⟨he, bel⟩ => ?_
  subst he
  exact ⟨_, rfl, _, _, _, [], _, [], hW', trodAll_mk1 (shut_bool Try.underlying4 _), keep_args laidOut bel (by kernel_rfl) hAll, rfl, bel.frame _, fun h => by cases h⟩

theorem over : Rows.editMakesRow.holds Try.pinned (OpenSpec.ofChange Rows.editMakesSpec) :=
  OpenClaim.holds_of_wide 5 Try.f5 rfl rfl rfl rfl rfl rfl rfl ⟨rfl, rfl, rfl, rfl, rfl⟩ rfl rfl rfl rfl rfl (by kernel_rfl) Try.func5 (by kernel_rfl)
    (of_decide_eq_true (by kernel_rfl)) (by unfold Func.isWrapper; first | (rw [if_pos (by decide +kernel)]; kernel_rfl) | (rw [if_neg (by decide +kernel)]; exact ⟨rfl, rfl⟩))
    (fun os started H enc _ => lifted os started H enc)

theorem proved : Rows.EditMakesSaid := over
#print axioms proved
end Go.Proofs.Ytiljpbncfofnhaa.lawMakes
