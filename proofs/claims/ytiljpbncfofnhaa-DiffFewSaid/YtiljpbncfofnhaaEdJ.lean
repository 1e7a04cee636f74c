/- edit: the program's Apply. -/
import Derived.Test.YtiljpbncfofnhaaEdI
import Derived.Outline
import Derived.BigQuiet
import Derived.Deep.QuietTactic
import Derived.Deep.RegionWith
import Derived.Deep.RegionHeld3
import Derived.Deep.DrawnRows
import Derived.Deep.LoopGhost
import Derived.Deep.DeepCutAuto
import Derived.Laws.EntriesVeiled
import Derived.Deep.RegionHeld
import Derived.BigQuiet
namespace Go.Proofs.Ytiljpbncfofnhaa.EdF
open Go.RowKit Go.ChangeShapes Go.WideShapes Go.ChangeAt
set_option linter.unusedVariables false
set_option linter.unusedSimpArgs false
attribute [local go_sem ↓] Go.wp_at_zero Go.wp_at_succ
open MayA FragA FragB EdC Tree FCheck

theorem takes_any (w : World) : Calls Try.prog 79 #[] w fun r w' => r = .returned (.agg #[.func (Fn.func 95) #[] #[], .func (Fn.func 96) #[] #[], .func (Fn.func 97) #[] #[], .func (Fn.func 98) #[] #[], .func (Fn.func 99) #[] #[], .func (Fn.func 100) #[] #[]]) ∧ Below w.heap.size w w' := by
  go_enter Try.func79, Try.ntmps79
  go_wp2
  exact bodyPost_ret (v := .agg #[.func (Fn.func 95) #[] #[], .func (Fn.func 96) #[] #[], .func (Fn.func 97) #[] #[], .func (Fn.func 98) #[] #[], .func (Fn.func 99) #[] #[], .func (Fn.func 100) #[] #[]]) (by simp [results, Try.results79, go_sem]) rfl ⟨rfl, (by repeat (first | exact Below.refl _ _ | assumption | refine Below.drew ?_ | refine bdrewN ?_ _ | refine Below.alloc ?_ (by simp; try omega) _ | refine Below.setCell ?_ (by simp; try omega) _))⟩
theorem tf_cells {w : World} {g : Nat} (h : Blk w g 120 #[.func (Fn.func 95) #[] #[], .func (Fn.func 96) #[] #[], .func (Fn.func 97) #[] #[], .func (Fn.func 98) #[] #[], .func (Fn.func 99) #[] #[], .func (Fn.func 100) #[] #[]]) :
    w.cell? ⟨g, 0, none⟩ = some (.func (Fn.func 95) #[] #[]) ∧ w.cell? ⟨g, 1, none⟩ = some (.func (Fn.func 96) #[] #[]) ∧ w.cell? ⟨g, 2, none⟩ = some (.func (Fn.func 97) #[] #[]) ∧
    w.cell? ⟨g, 3, none⟩ = some (.func (Fn.func 98) #[] #[]) ∧ w.cell? ⟨g, 4, none⟩ = some (.func (Fn.func 99) #[] #[]) ∧ w.cell? ⟨g, 5, none⟩ = some (.func (Fn.func 100) #[] #[]) :=
  ⟨h.cell 0, h.cell 1, h.cell 2, h.cell 3, h.cell 4, h.cell 5⟩
/-- what the round's test leaves: b: it ends in nothing -/
def R10 (w0 wx : World) (g : Nat) (A : Option Addr) (n cap : Nat) (l : List Fr) (ab k : Nat) (out : List Fr) (e : Ed) (b : Bool) : Prop :=
  Below w0.heap.size w0 wx ∧ Blk wx ab 120 #[.func (Fn.func 95) #[] #[], .func (Fn.func 96) #[] #[], .func (Fn.func 97) #[] #[], .func (Fn.func 98) #[] #[], .func (Fn.func 99) #[] #[], .func (Fn.func 100) #[] #[]] ∧ (b = true → (mayE e = false ∨ 2048 < out.length ∨ stepE l e k out = none)) ∧
  (b = false → mayE e = true ∧ out.length ≤ 2048 ∧ ∃ k' out', stepE l e k out = some (k', out') ∧ LoomIn w0 wx g A n cap l k' out')
/-- The call hands back fragments in memory that it made, and an error number. -/
def RetAp (w : World) (x : List Fr × Int) (r : Ending) (w' : World) : Prop :=
  ∃ A n cap, r = .returned (.tuple #[.slice A n cap, .int .i64 x.2]) ∧ OwnA w' 67 8 Fr.cells (.slice A n cap) x.1 ∧ (∀ b, (Value.slice A n cap).ownBlock = some b → w.heap.size ≤ b) ∧ Below w.heap.size w w'
theorem RetAp.nil_ {w w' : World} {x : List Fr × Int} {e : Int} (hx : x = ([], e)) (hb : Below w.heap.size w w') : RetAp w x (.returned (.tuple #[.slice none 0 0, .int .i64 e])) w' := by
  subst hx
  exact ⟨none, 0, 0, rfl, OwnA.nil_ _ _ _ _, fun b h => (by cases h), hb⟩
set_option maxRecDepth 100000 in
set_option maxHeartbeats 16000000 in
theorem apply_any (l : List Fr) (es : List Ed) (A : Option Addr) (n cap : Nat) (B : Option Addr) (m c2 : Nat) (w : World) (hl : FrSl w w.heap.size A l) (hw : FrsWf l) (hn : Hid (n = l.length)) (he : EdSl w w.heap.size B es) (hew : EdsWf es) (hm : Hid (m = es.length)) (h63 : l.length ≤ 100000000) (m63 : m ≤ maxLen) (hnc : n ≤ cap) :
    Calls Try.prog 45 #[.slice A n cap, .slice B m c2] w (RetAp w (applyE l es)) := by
  unfold maxLen at m63
  have HA := Lib.hid hl
  have HE := Lib.hid (And.intro he hew)
  have HWf := Lib.hid hw
  clear hl he hew hw
  by_cases t1 : 4096 < m
  · have hr := Lib.hid (show applyE l es = ([], 4) by rw [applyE, if_pos (by rw [← hm.out]; exact t1)])
    have q1 : decide ((4096 : Int) < (m : Int)) = true := decide_eq_true (by omega)
    go_enter Try.func45, Try.ntmps45
    go_wp2
    go_ret2
    exact RetAp.nil_ hr.out (Below.refl _ _)
  · have q1 : decide ((4096 : Int) < (m : Int)) = false := decide_eq_false (by omega)
    have HC := Lib.hid (check_any l A n cap w HA.out HWf.out hn)
    by_cases t2 : chk l = 0
    · rw [t2] at HC
      have hr := Lib.hid (show applyE l es = (match runE l es (0, []) with
        | none => (([] : List Fr), (210 : Int))
        | some (k, out) => if k < l.length ∨ chk out ≠ 0 then ([], 210) else (out, 0)) by rw [applyE, if_neg (by rw [← hm.out]; omega), if_neg (by simp [t2])]; rfl)
      clear t2
      go_enter Try.func45, Try.ntmps45
      go_wp2_with fail
      refine (HC.out).mono ?_; rintro r w1 ⟨rfl, hb1⟩
      have HB1 := Lib.hid hb1
      clear hb1
      go_wp2_with fail
      refine (takes_any _).mono ?_; rintro r w3 ⟨rfl, hb3⟩
      go_wp2_with fail
      have H0 : Hid (LoomIn w (w3.alloc (.cells #[.func (Fn.func 95) #[] #[], .func (Fn.func 96) #[] #[], .func (Fn.func 97) #[] #[], .func (Fn.func 98) #[] #[], .func (Fn.func 99) #[] #[], .func (Fn.func 100) #[] #[]] 120)) w1.heap.size A n cap l 0 [] ∧ Blk (w3.alloc (.cells #[.func (Fn.func 95) #[] #[], .func (Fn.func 96) #[] #[], .func (Fn.func 97) #[] #[], .func (Fn.func 98) #[] #[], .func (Fn.func 99) #[] #[], .func (Fn.func 100) #[] #[]] 120)) w3.heap.size 120 #[.func (Fn.func 95) #[] #[], .func (Fn.func 96) #[] #[], .func (Fn.func 97) #[] #[], .func (Fn.func 98) #[] #[], .func (Fn.func 99) #[] #[], .func (Fn.func 100) #[] #[]]) := by
        refine ⟨LoomIn.ext (w := w1.alloc (.cells #[.slice A n cap, .slice A n cap, .slice none 0 0] 118)) ⟨A, n, cap, .slice none 0 0, Blk.new _ _ _, HB1.out.size, HB1.out.trans (below_a w1 _ |>.mono HB1.out.size), by simpa using HA.out, by rw [Hid, List.drop_zero]; exact hn.out, hnc, OwnA.nil_ _ _ _ _, fun b h => by cases h⟩ (hb3.trans ((below_a w3 _).mono hb3.size)), Blk.new _ _ _⟩
      clear hb3
      generalize w3.alloc (.cells #[.func (Fn.func 95) #[] #[], .func (Fn.func 96) #[] #[], .func (Fn.func 97) #[] #[], .func (Fn.func 98) #[] #[], .func (Fn.func 99) #[] #[], .func (Fn.func 100) #[] #[]] 120) = W3 at *
      obtain ⟨g, hg⟩ : ∃ g, Hid (w1.heap.size = g) := ⟨_, rfl⟩
      obtain ⟨ab, hab⟩ : ∃ ab, Hid (w3.heap.size = ab) := ⟨_, rfl⟩
      rw [hg.out, hab.out] at H0
      rw [hg.out, hab.out]
      go_loopg [23] m (fun gk v23 wr => ∃ (j k : Nat) (out : List Fr), m ≤ j + gk ∧ j ≤ m ∧ v23 = .int .i64 (j : Int) ∧ k ≤ l.length ∧ out.length ≤ 4096 ∧ Hid (FrsWf out) ∧ Hid (LoomIn w wr g A n cap l k out ∧ Blk wr ab 120 #[.func (Fn.func 95) #[] #[], .func (Fn.func 96) #[] #[], .func (Fn.func 97) #[] #[], .func (Fn.func 98) #[] #[], .func (Fn.func 99) #[] #[], .func (Fn.func 100) #[] #[]]) ∧ Hid (runE l es (0, []) = runE l (es.drop j) (k, out)))
      case atStart => exact ⟨0, 0, [], by omega, by omega, rfl, by omega, by simp, fun f hf => (by cases hf), H0.out, rfl⟩
      case round =>
        obtain ⟨j, k, out, hgk, hj, rfl, hkl, hol, hwf, hL, hrun⟩ := hrel
        by_cases hlt : j < m
        · have hjl : j < es.length := by rw [← hm.out]; exact hlt
          have hx := List.getElem?_eq_getElem hjl
          have Hd := Lib.hid (List.drop_eq_getElem_cons hjl)
          have HWe := Lib.hid (HE.out.2 _ (List.getElem_mem hjl))
          obtain ⟨bb, off, rfl, hbb, c0, c1, c2', c3', c4, c5, c6, c7, c8, c9, c10, c11⟩ := EdSl.at_ (HE.out.1.below hL.out.1.be) hx
          have b1 : (0 : Int) ≤ (j : Int) := Int.natCast_nonneg _
          have b2 : (j : Int) < (m : Int) := by omega
          generalize es[j] = e at *
          clear hx
          go_upto_region 10 with fail
          have HW : Hid (Blk (wr.alloc (.cells #[.int .u8 e.kind, .int .i64 e.n, .int .i64 e.node, .int .i64 e.part, .int .i64 e.f.node, .int .i64 e.f.part, .int .i64 e.f.depth, .int .i64 e.f.x, .int .i64 e.f.y, .int .i64 e.f.w, .int .i64 e.f.h, .string e.f.text] 69)) wr.heap.size 69 e.cells.toArray ∧ Blk (wr.alloc (.cells #[.int .u8 e.kind, .int .i64 e.n, .int .i64 e.node, .int .i64 e.part, .int .i64 e.f.node, .int .i64 e.f.part, .int .i64 e.f.depth, .int .i64 e.f.x, .int .i64 e.f.y, .int .i64 e.f.w, .int .i64 e.f.h, .string e.f.text] 69)) ab 120 #[.func (Fn.func 95) #[] #[], .func (Fn.func 96) #[] #[], .func (Fn.func 97) #[] #[], .func (Fn.func 98) #[] #[], .func (Fn.func 99) #[] #[], .func (Fn.func 100) #[] #[]] ∧ LoomIn w (wr.alloc (.cells #[.int .u8 e.kind, .int .i64 e.n, .int .i64 e.node, .int .i64 e.part, .int .i64 e.f.node, .int .i64 e.f.part, .int .i64 e.f.depth, .int .i64 e.f.x, .int .i64 e.f.y, .int .i64 e.f.w, .int .i64 e.f.h, .string e.f.text] 69)) g A n cap l k out) := ⟨box_blk wr e, hL.out.2.ext (below_a wr _), hL.out.1.ext (below_a wr _)⟩
          clear c0 c1 c2' c3' c4 c5 c6 c7 c8 c9 c10 c11
          generalize wr.alloc (.cells #[.int .u8 e.kind, .int .i64 e.n, .int .i64 e.node, .int .i64 e.part, .int .i64 e.f.node, .int .i64 e.f.part, .int .i64 e.f.depth, .int .i64 e.f.x, .int .i64 e.f.y, .int .i64 e.f.w, .int .i64 e.f.h, .string e.f.text] 69) = W at *
          obtain ⟨eb, heb⟩ : ∃ eb, Hid (wr.heap.size = eb) := ⟨_, rfl⟩
          rw [heb.out] at HW
          rw [heb.out]
          go_cut [47] (fun s47 wx => ∃ b, s47 = .bool b ∧ Hid (R10 w wx g A n cap l ab k out e b))
          case first =>
            cases hmy : mayE e with
            | false =>
              have HMy := Lib.hid hmy
              clear hmy
              have HM := fun W => Lib.hid (by have h := EdC.may_any e W HWe.out; rw [HMy.out] at h; unfold Ed.agg at h; exact h)
              refine wp_region_held_drew (S := fun w' => Blk w' eb 69 e.cells.toArray ∧ Blk w' ab 120 #[.func (Fn.func 95) #[] #[], .func (Fn.func 96) #[] #[], .func (Fn.func 97) #[] #[], .func (Fn.func 98) #[] #[], .func (Fn.func 99) #[] #[], .func (Fn.func 100) #[] #[]]) (by kernel_rfl) (show _ from ⟨HW.out.1.drew, HW.out.2.1.drew⟩) (fun hHeld => ?_)
              try simp only [Act.put, List.setIfInBounds_toArray, List.set_cons_zero, List.set_cons_succ]
              (refine wpAnyH_take (i := 0) (oi := { dst := some 27, op := _, type := _, pos := _, after := _, guard := _ }) (v := ?_) rfl (by kernel_rfl) (by kernel_rfl) (by kernel_rfl) (fun _ _ _ h => h) (Or.inl ⟨by kernel_rfl, (by intro W' hS'; obtain ⟨z0, z1, z2, z3, z4, z5, z6, z7, z8, z9, z10, z11⟩ := box_cells hS'.1; obtain ⟨y0, y1, y2, y3, y4, y5⟩ := tf_cells hS'.2; go_simp; try with_reducible rfl)⟩) (by assumption) ?_; (try simp only [Act.put, List.setIfInBounds_toArray, List.set_cons_zero, List.set_cons_succ]))
              refine wpAnyH_ready (rs := [1]) (by kernel_rfl) (by simp) ?_
              refine AllReadyH.cons (o := { dst := some 28, op := _, type := _, pos := _, after := _, guard := _ }) rfl (fun K hK => ?_) AllReadyH.nil
              go_simp
              refine ((HM _).out).mono ?_; rintro r w5 ⟨rfl, hb5⟩
              have hS5 : Blk w5 eb 69 e.cells.toArray ∧ Blk w5 ab 120 #[.func (Fn.func 95) #[] #[], .func (Fn.func 96) #[] #[], .func (Fn.func 97) #[] #[], .func (Fn.func 98) #[] #[], .func (Fn.func 99) #[] #[], .func (Fn.func 100) #[] #[]] := ⟨HW.out.1.drew.ext hb5, HW.out.2.1.drew.ext hb5⟩
              have HL5 := Lib.hid (HW.out.2.2.ext ((Below.refl _ _).drew.trans hb5))
              refine hK.out _ _ hS5 (fun hHeld2 => ?_)
              clear hK K hb5
              try simp only [Act.put, List.setIfInBounds_toArray, List.set_cons_zero, List.set_cons_succ]
              (refine wpAnyH_take (i := 2) (oi := { dst := some 29, op := _, type := _, pos := _, after := _, guard := _ }) (v := ?_) rfl (by kernel_rfl) (by kernel_rfl) (by kernel_rfl) (fun _ _ _ h => h) (Or.inl ⟨by kernel_rfl, (by intro W' hS'; obtain ⟨z0, z1, z2, z3, z4, z5, z6, z7, z8, z9, z10, z11⟩ := box_cells hS'.1; obtain ⟨y0, y1, y2, y3, y4, y5⟩ := tf_cells hS'.2; go_simp; try with_reducible rfl)⟩) (by assumption) ?_; (try simp only [Act.put, List.setIfInBounds_toArray, List.set_cons_zero, List.set_cons_succ]))
              (refine wpAnyH_take (i := 3) (oi := { dst := some 30, op := _, type := _, pos := _, after := _, guard := _ }) (v := ?_) rfl (by kernel_rfl) (by kernel_rfl) (by kernel_rfl) (fun _ _ _ h => h) (Or.inl ⟨by kernel_rfl, (by intro W' hS'; obtain ⟨z0, z1, z2, z3, z4, z5, z6, z7, z8, z9, z10, z11⟩ := box_cells hS'.1; obtain ⟨y0, y1, y2, y3, y4, y5⟩ := tf_cells hS'.2; go_simp; try with_reducible rfl)⟩) (by assumption) ?_; (try simp only [Act.put, List.setIfInBounds_toArray, List.set_cons_zero, List.set_cons_succ]))
              (refine wpAnyH_take (i := 4) (oi := { dst := some 31, op := _, type := _, pos := _, after := _, guard := _ }) (v := undef) rfl (by kernel_rfl) (by kernel_rfl) (by kernel_rfl) (fun _ _ _ h => h) (Or.inr ⟨by kernel_rfl, rfl⟩) (by assumption) ?_; (try simp only [Act.put, List.setIfInBounds_toArray, List.set_cons_zero, List.set_cons_succ]))
              (refine wpAnyH_take (i := 5) (oi := { dst := some 32, op := _, type := _, pos := _, after := _, guard := _ }) (v := undef) rfl (by kernel_rfl) (by kernel_rfl) (by kernel_rfl) (fun _ _ _ h => h) (Or.inr ⟨by kernel_rfl, rfl⟩) (by assumption) ?_; (try simp only [Act.put, List.setIfInBounds_toArray, List.set_cons_zero, List.set_cons_succ]))
              (refine wpAnyH_take (i := 6) (oi := { dst := some 33, op := _, type := _, pos := _, after := _, guard := _ }) (v := undef) rfl (by kernel_rfl) (by kernel_rfl) (by kernel_rfl) (fun _ _ _ h => h) (Or.inr ⟨by kernel_rfl, rfl⟩) (by assumption) ?_; (try simp only [Act.put, List.setIfInBounds_toArray, List.set_cons_zero, List.set_cons_succ]))
              (refine wpAnyH_take (i := 7) (oi := { dst := some 34, op := _, type := _, pos := _, after := _, guard := _ }) (v := undef) rfl (by kernel_rfl) (by kernel_rfl) (by kernel_rfl) (fun _ _ _ h => h) (Or.inr ⟨by kernel_rfl, rfl⟩) (by assumption) ?_; (try simp only [Act.put, List.setIfInBounds_toArray, List.set_cons_zero, List.set_cons_succ]))
              (refine wpAnyH_take (i := 8) (oi := { dst := some 35, op := _, type := _, pos := _, after := _, guard := _ }) (v := undef) rfl (by kernel_rfl) (by kernel_rfl) (by kernel_rfl) (fun _ _ _ h => h) (Or.inr ⟨by kernel_rfl, rfl⟩) (by assumption) ?_; (try simp only [Act.put, List.setIfInBounds_toArray, List.set_cons_zero, List.set_cons_succ]))
              (refine wpAnyH_take (i := 9) (oi := { dst := some 36, op := _, type := _, pos := _, after := _, guard := _ }) (v := undef) rfl (by kernel_rfl) (by kernel_rfl) (by kernel_rfl) (fun _ _ _ h => h) (Or.inr ⟨by kernel_rfl, rfl⟩) (by assumption) ?_; (try simp only [Act.put, List.setIfInBounds_toArray, List.set_cons_zero, List.set_cons_succ]))
              (refine wpAnyH_take (i := 10) (oi := { dst := some 37, op := _, type := _, pos := _, after := _, guard := _ }) (v := ?_) rfl (by kernel_rfl) (by kernel_rfl) (by kernel_rfl) (fun _ _ _ h => h) (Or.inl ⟨by kernel_rfl, (by intro W' hS'; obtain ⟨z0, z1, z2, z3, z4, z5, z6, z7, z8, z9, z10, z11⟩ := box_cells hS'.1; obtain ⟨y0, y1, y2, y3, y4, y5⟩ := tf_cells hS'.2; go_simp; try with_reducible rfl)⟩) (by assumption) ?_; (try simp only [Act.put, List.setIfInBounds_toArray, List.set_cons_zero, List.set_cons_succ]))
              (refine wpAnyH_take (i := 11) (oi := { dst := some 38, op := _, type := _, pos := _, after := _, guard := _ }) (v := ?_) rfl (by kernel_rfl) (by kernel_rfl) (by kernel_rfl) (fun _ _ _ h => h) (Or.inl ⟨by kernel_rfl, (by intro W' hS'; obtain ⟨z0, z1, z2, z3, z4, z5, z6, z7, z8, z9, z10, z11⟩ := box_cells hS'.1; obtain ⟨y0, y1, y2, y3, y4, y5⟩ := tf_cells hS'.2; go_simp; try with_reducible rfl)⟩) (by assumption) ?_; (try simp only [Act.put, List.setIfInBounds_toArray, List.set_cons_zero, List.set_cons_succ]))
              (refine wpAnyH_take (i := 12) (oi := { dst := some 39, op := _, type := _, pos := _, after := _, guard := _ }) (v := undef) rfl (by kernel_rfl) (by kernel_rfl) (by kernel_rfl) (fun _ _ _ h => h) (Or.inr ⟨by kernel_rfl, rfl⟩) (by assumption) ?_; (try simp only [Act.put, List.setIfInBounds_toArray, List.set_cons_zero, List.set_cons_succ]))
              (refine wpAnyH_take (i := 13) (oi := { dst := some 40, op := _, type := _, pos := _, after := _, guard := _ }) (v := undef) rfl (by kernel_rfl) (by kernel_rfl) (by kernel_rfl) (fun _ _ _ h => h) (Or.inr ⟨by kernel_rfl, rfl⟩) (by assumption) ?_; (try simp only [Act.put, List.setIfInBounds_toArray, List.set_cons_zero, List.set_cons_succ]))
              (refine wpAnyH_take (i := 14) (oi := { dst := some 41, op := _, type := _, pos := _, after := _, guard := _ }) (v := undef) rfl (by kernel_rfl) (by kernel_rfl) (by kernel_rfl) (fun _ _ _ h => h) (Or.inr ⟨by kernel_rfl, rfl⟩) (by assumption) ?_; (try simp only [Act.put, List.setIfInBounds_toArray, List.set_cons_zero, List.set_cons_succ]))
              (refine wpAnyH_take (i := 15) (oi := { dst := some 42, op := _, type := _, pos := _, after := _, guard := _ }) (v := undef) rfl (by kernel_rfl) (by kernel_rfl) (by kernel_rfl) (fun _ _ _ h => h) (Or.inr ⟨by kernel_rfl, rfl⟩) (by assumption) ?_; (try simp only [Act.put, List.setIfInBounds_toArray, List.set_cons_zero, List.set_cons_succ]))
              (refine wpAnyH_take (i := 16) (oi := { dst := some 43, op := _, type := _, pos := _, after := _, guard := _ }) (v := undef) rfl (by kernel_rfl) (by kernel_rfl) (by kernel_rfl) (fun _ _ _ h => h) (Or.inr ⟨by kernel_rfl, rfl⟩) (by assumption) ?_; (try simp only [Act.put, List.setIfInBounds_toArray, List.set_cons_zero, List.set_cons_succ]))
              (refine wpAnyH_take (i := 17) (oi := { dst := some 44, op := _, type := _, pos := _, after := _, guard := _ }) (v := undef) rfl (by kernel_rfl) (by kernel_rfl) (by kernel_rfl) (fun _ _ _ h => h) (Or.inr ⟨by kernel_rfl, rfl⟩) (by assumption) ?_; (try simp only [Act.put, List.setIfInBounds_toArray, List.set_cons_zero, List.set_cons_succ]))
              (refine wpAnyH_take (i := 18) (oi := { dst := some 45, op := _, type := _, pos := _, after := _, guard := _ }) (v := undef) rfl (by kernel_rfl) (by kernel_rfl) (by kernel_rfl) (fun _ _ _ h => h) (Or.inr ⟨by kernel_rfl, rfl⟩) (by assumption) ?_; (try simp only [Act.put, List.setIfInBounds_toArray, List.set_cons_zero, List.set_cons_succ]))
              (refine wpAnyH_take (i := 19) (oi := { dst := some 46, op := _, type := _, pos := _, after := _, guard := _ }) (v := undef) rfl (by kernel_rfl) (by kernel_rfl) (by kernel_rfl) (fun _ _ _ h => h) (Or.inr ⟨by kernel_rfl, rfl⟩) (by assumption) ?_; (try simp only [Act.put, List.setIfInBounds_toArray, List.set_cons_zero, List.set_cons_succ]))
              (refine wpAnyH_take (i := 20) (oi := { dst := some 47, op := _, type := _, pos := _, after := _, guard := _ }) (v := ?_) rfl (by kernel_rfl) (by kernel_rfl) (by kernel_rfl) (fun _ _ _ h => h) (Or.inl ⟨by kernel_rfl, (by intro W' hS'; obtain ⟨z0, z1, z2, z3, z4, z5, z6, z7, z8, z9, z10, z11⟩ := box_cells hS'.1; obtain ⟨y0, y1, y2, y3, y4, y5⟩ := tf_cells hS'.2; go_simp; try with_reducible rfl)⟩) (by assumption) ?_; (try simp only [Act.put, List.setIfInBounds_toArray, List.set_cons_zero, List.set_cons_succ]))
              refine wpAnyH_done (by kernel_rfl) ?_ _
              have HR := Lib.hid (show R10 w _ g A n cap l ab k out e true from ⟨HL5.out.be, hS5.2, fun _ => .inl HMy.out, fun h => by cases h⟩)
              go_wp2_with fail
              go_meet
              exact ⟨_, rfl, HR.out⟩
            | true =>
              have HMy := Lib.hid hmy
              clear hmy
              by_cases ho : 2048 < out.length
              · have HM := fun W => Lib.hid (by have h := EdC.may_any e W HWe.out; rw [HMy.out] at h; unfold Ed.agg at h; exact h)
                refine wp_region_held_drew (S := fun w' => Blk w' eb 69 e.cells.toArray ∧ Blk w' ab 120 #[.func (Fn.func 95) #[] #[], .func (Fn.func 96) #[] #[], .func (Fn.func 97) #[] #[], .func (Fn.func 98) #[] #[], .func (Fn.func 99) #[] #[], .func (Fn.func 100) #[] #[]]) (by kernel_rfl) (show _ from ⟨HW.out.1.drew, HW.out.2.1.drew⟩) (fun hHeld => ?_)
                try simp only [Act.put, List.setIfInBounds_toArray, List.set_cons_zero, List.set_cons_succ]
                (refine wpAnyH_take (i := 0) (oi := { dst := some 27, op := _, type := _, pos := _, after := _, guard := _ }) (v := ?_) rfl (by kernel_rfl) (by kernel_rfl) (by kernel_rfl) (fun _ _ _ h => h) (Or.inl ⟨by kernel_rfl, (by intro W' hS'; obtain ⟨z0, z1, z2, z3, z4, z5, z6, z7, z8, z9, z10, z11⟩ := box_cells hS'.1; obtain ⟨y0, y1, y2, y3, y4, y5⟩ := tf_cells hS'.2; go_simp; try with_reducible rfl)⟩) (by assumption) ?_; (try simp only [Act.put, List.setIfInBounds_toArray, List.set_cons_zero, List.set_cons_succ]))
                refine wpAnyH_ready (rs := [1]) (by kernel_rfl) (by simp) ?_
                refine AllReadyH.cons (o := { dst := some 28, op := _, type := _, pos := _, after := _, guard := _ }) rfl (fun K hK => ?_) AllReadyH.nil
                go_simp
                refine ((HM _).out).mono ?_; rintro r w5 ⟨rfl, hb5⟩
                have hS5 : Blk w5 eb 69 e.cells.toArray ∧ Blk w5 ab 120 #[.func (Fn.func 95) #[] #[], .func (Fn.func 96) #[] #[], .func (Fn.func 97) #[] #[], .func (Fn.func 98) #[] #[], .func (Fn.func 99) #[] #[], .func (Fn.func 100) #[] #[]] := ⟨HW.out.1.drew.ext hb5, HW.out.2.1.drew.ext hb5⟩
                have HL5 := Lib.hid (HW.out.2.2.ext ((Below.refl _ _).drew.trans hb5))
                refine hK.out _ _ hS5 (fun hHeld2 => ?_)
                clear hK K hb5
                try simp only [Act.put, List.setIfInBounds_toArray, List.set_cons_zero, List.set_cons_succ]
                obtain ⟨A2, n2, c2', v5, hL5⟩ := HL5.out
                obtain ⟨A3, n3, c3, rfl, hn3, _, _, _⟩ := hL5.own.form
                have x2 : w5.cell? ⟨g, 2, none⟩ = some (.slice A3 n3 c3) := hL5.blk.cell 2
                have hn3' : n3 = out.length := hn3.out
                have q3 : decide ((2048 : Int) < (n3 : Int)) = true := decide_eq_true (by omega)
                clear hL5 hn3 hn3'
                (refine wpAnyH_take (i := 2) (oi := { dst := some 29, op := _, type := _, pos := _, after := _, guard := _ }) (v := ?_) rfl (by kernel_rfl) (by kernel_rfl) (by kernel_rfl) (fun _ _ _ h => h) (Or.inl ⟨by kernel_rfl, (by intro W' hS'; obtain ⟨z0, z1, z2, z3, z4, z5, z6, z7, z8, z9, z10, z11⟩ := box_cells hS'.1; obtain ⟨y0, y1, y2, y3, y4, y5⟩ := tf_cells hS'.2; go_simp; try with_reducible rfl)⟩) (by assumption) ?_; (try simp only [Act.put, List.setIfInBounds_toArray, List.set_cons_zero, List.set_cons_succ]))
                (refine wpAnyH_take (i := 3) (oi := { dst := some 30, op := _, type := _, pos := _, after := _, guard := _ }) (v := ?_) rfl (by kernel_rfl) (by kernel_rfl) (by kernel_rfl) (fun _ _ _ h => h) (Or.inl ⟨by kernel_rfl, (by intro W' hS'; obtain ⟨z0, z1, z2, z3, z4, z5, z6, z7, z8, z9, z10, z11⟩ := box_cells hS'.1; obtain ⟨y0, y1, y2, y3, y4, y5⟩ := tf_cells hS'.2; go_simp; try with_reducible rfl)⟩) (by assumption) ?_; (try simp only [Act.put, List.setIfInBounds_toArray, List.set_cons_zero, List.set_cons_succ]))
                (refine wpAnyH_take (i := 4) (oi := { dst := some 31, op := _, type := _, pos := _, after := _, guard := _ }) (v := ?_) rfl (by kernel_rfl) (by kernel_rfl) (by kernel_rfl) (fun _ _ _ h => h) (Or.inl ⟨by kernel_rfl, (by intro W' hS'; obtain ⟨z0, z1, z2, z3, z4, z5, z6, z7, z8, z9, z10, z11⟩ := box_cells hS'.1; obtain ⟨y0, y1, y2, y3, y4, y5⟩ := tf_cells hS'.2; go_simp; try with_reducible rfl)⟩) (by assumption) ?_; (try simp only [Act.put, List.setIfInBounds_toArray, List.set_cons_zero, List.set_cons_succ]))
                (refine wpAnyH_take (i := 5) (oi := { dst := some 32, op := _, type := _, pos := _, after := _, guard := _ }) (v := ?_) rfl (by kernel_rfl) (by kernel_rfl) (by kernel_rfl) (fun _ _ _ h => h) (Or.inl ⟨by kernel_rfl, (by intro W' hS'; obtain ⟨z0, z1, z2, z3, z4, z5, z6, z7, z8, z9, z10, z11⟩ := box_cells hS'.1; obtain ⟨y0, y1, y2, y3, y4, y5⟩ := tf_cells hS'.2; go_simp; try with_reducible rfl)⟩) (by assumption) ?_; (try simp only [Act.put, List.setIfInBounds_toArray, List.set_cons_zero, List.set_cons_succ]))
                (refine wpAnyH_take (i := 6) (oi := { dst := some 33, op := _, type := _, pos := _, after := _, guard := _ }) (v := ?_) rfl (by kernel_rfl) (by kernel_rfl) (by kernel_rfl) (fun _ _ _ h => h) (Or.inl ⟨by kernel_rfl, (by intro W' hS'; obtain ⟨z0, z1, z2, z3, z4, z5, z6, z7, z8, z9, z10, z11⟩ := box_cells hS'.1; obtain ⟨y0, y1, y2, y3, y4, y5⟩ := tf_cells hS'.2; go_simp; try with_reducible rfl)⟩) (by assumption) ?_; (try simp only [Act.put, List.setIfInBounds_toArray, List.set_cons_zero, List.set_cons_succ]))
                refine wpAnyH_ready (rs := [7]) (by kernel_rfl) (by simp) ?_
                refine AllReadyH.cons (o := { dst := some 34, op := _, type := _, pos := _, after := _, guard := _ }) rfl (fun K hK => ?_) AllReadyH.nil
                refine Eq.mpr (if_pos (by kernel_rfl)) ?_
                go_simp
                refine hK.out _ _ hS5 (fun hHeld3 => ?_)
                clear hK K
                try simp only [Act.put, List.setIfInBounds_toArray, List.set_cons_zero, List.set_cons_succ]
                (refine wpAnyH_take (i := 8) (oi := { dst := some 35, op := _, type := _, pos := _, after := _, guard := _ }) (v := ?_) rfl (by kernel_rfl) (by kernel_rfl) (by kernel_rfl) (fun _ _ _ h => h) (Or.inl ⟨by kernel_rfl, (by intro W' hS'; obtain ⟨z0, z1, z2, z3, z4, z5, z6, z7, z8, z9, z10, z11⟩ := box_cells hS'.1; obtain ⟨y0, y1, y2, y3, y4, y5⟩ := tf_cells hS'.2; go_simp; try with_reducible rfl)⟩) (by assumption) ?_; (try simp only [Act.put, List.setIfInBounds_toArray, List.set_cons_zero, List.set_cons_succ]))
                (refine wpAnyH_take (i := 9) (oi := { dst := some 36, op := _, type := _, pos := _, after := _, guard := _ }) (v := ?_) rfl (by kernel_rfl) (by kernel_rfl) (by kernel_rfl) (fun _ _ _ h => h) (Or.inl ⟨by kernel_rfl, (by intro W' hS'; obtain ⟨z0, z1, z2, z3, z4, z5, z6, z7, z8, z9, z10, z11⟩ := box_cells hS'.1; obtain ⟨y0, y1, y2, y3, y4, y5⟩ := tf_cells hS'.2; go_simp; try with_reducible rfl)⟩) (by assumption) ?_; (try simp only [Act.put, List.setIfInBounds_toArray, List.set_cons_zero, List.set_cons_succ]))
                (refine wpAnyH_take (i := 10) (oi := { dst := some 37, op := _, type := _, pos := _, after := _, guard := _ }) (v := ?_) rfl (by kernel_rfl) (by kernel_rfl) (by kernel_rfl) (fun _ _ _ h => h) (Or.inl ⟨by kernel_rfl, (by intro W' hS'; obtain ⟨z0, z1, z2, z3, z4, z5, z6, z7, z8, z9, z10, z11⟩ := box_cells hS'.1; obtain ⟨y0, y1, y2, y3, y4, y5⟩ := tf_cells hS'.2; go_simp; try with_reducible rfl)⟩) (by assumption) ?_; (try simp only [Act.put, List.setIfInBounds_toArray, List.set_cons_zero, List.set_cons_succ]))
                (refine wpAnyH_take (i := 11) (oi := { dst := some 38, op := _, type := _, pos := _, after := _, guard := _ }) (v := ?_) rfl (by kernel_rfl) (by kernel_rfl) (by kernel_rfl) (fun _ _ _ h => h) (Or.inl ⟨by kernel_rfl, (by intro W' hS'; obtain ⟨z0, z1, z2, z3, z4, z5, z6, z7, z8, z9, z10, z11⟩ := box_cells hS'.1; obtain ⟨y0, y1, y2, y3, y4, y5⟩ := tf_cells hS'.2; go_simp; try with_reducible rfl)⟩) (by assumption) ?_; (try simp only [Act.put, List.setIfInBounds_toArray, List.set_cons_zero, List.set_cons_succ]))
                (refine wpAnyH_take (i := 12) (oi := { dst := some 39, op := _, type := _, pos := _, after := _, guard := _ }) (v := undef) rfl (by kernel_rfl) (by kernel_rfl) (by kernel_rfl) (fun _ _ _ h => h) (Or.inr ⟨by kernel_rfl, rfl⟩) (by assumption) ?_; (try simp only [Act.put, List.setIfInBounds_toArray, List.set_cons_zero, List.set_cons_succ]))
                (refine wpAnyH_take (i := 13) (oi := { dst := some 40, op := _, type := _, pos := _, after := _, guard := _ }) (v := undef) rfl (by kernel_rfl) (by kernel_rfl) (by kernel_rfl) (fun _ _ _ h => h) (Or.inr ⟨by kernel_rfl, rfl⟩) (by assumption) ?_; (try simp only [Act.put, List.setIfInBounds_toArray, List.set_cons_zero, List.set_cons_succ]))
                (refine wpAnyH_take (i := 14) (oi := { dst := some 41, op := _, type := _, pos := _, after := _, guard := _ }) (v := undef) rfl (by kernel_rfl) (by kernel_rfl) (by kernel_rfl) (fun _ _ _ h => h) (Or.inr ⟨by kernel_rfl, rfl⟩) (by assumption) ?_; (try simp only [Act.put, List.setIfInBounds_toArray, List.set_cons_zero, List.set_cons_succ]))
                (refine wpAnyH_take (i := 15) (oi := { dst := some 42, op := _, type := _, pos := _, after := _, guard := _ }) (v := undef) rfl (by kernel_rfl) (by kernel_rfl) (by kernel_rfl) (fun _ _ _ h => h) (Or.inr ⟨by kernel_rfl, rfl⟩) (by assumption) ?_; (try simp only [Act.put, List.setIfInBounds_toArray, List.set_cons_zero, List.set_cons_succ]))
                (refine wpAnyH_take (i := 16) (oi := { dst := some 43, op := _, type := _, pos := _, after := _, guard := _ }) (v := undef) rfl (by kernel_rfl) (by kernel_rfl) (by kernel_rfl) (fun _ _ _ h => h) (Or.inr ⟨by kernel_rfl, rfl⟩) (by assumption) ?_; (try simp only [Act.put, List.setIfInBounds_toArray, List.set_cons_zero, List.set_cons_succ]))
                (refine wpAnyH_take (i := 17) (oi := { dst := some 44, op := _, type := _, pos := _, after := _, guard := _ }) (v := undef) rfl (by kernel_rfl) (by kernel_rfl) (by kernel_rfl) (fun _ _ _ h => h) (Or.inr ⟨by kernel_rfl, rfl⟩) (by assumption) ?_; (try simp only [Act.put, List.setIfInBounds_toArray, List.set_cons_zero, List.set_cons_succ]))
                (refine wpAnyH_take (i := 18) (oi := { dst := some 45, op := _, type := _, pos := _, after := _, guard := _ }) (v := undef) rfl (by kernel_rfl) (by kernel_rfl) (by kernel_rfl) (fun _ _ _ h => h) (Or.inr ⟨by kernel_rfl, rfl⟩) (by assumption) ?_; (try simp only [Act.put, List.setIfInBounds_toArray, List.set_cons_zero, List.set_cons_succ]))
                (refine wpAnyH_take (i := 19) (oi := { dst := some 46, op := _, type := _, pos := _, after := _, guard := _ }) (v := undef) rfl (by kernel_rfl) (by kernel_rfl) (by kernel_rfl) (fun _ _ _ h => h) (Or.inr ⟨by kernel_rfl, rfl⟩) (by assumption) ?_; (try simp only [Act.put, List.setIfInBounds_toArray, List.set_cons_zero, List.set_cons_succ]))
                (refine wpAnyH_take (i := 20) (oi := { dst := some 47, op := _, type := _, pos := _, after := _, guard := _ }) (v := ?_) rfl (by kernel_rfl) (by kernel_rfl) (by kernel_rfl) (fun _ _ _ h => h) (Or.inl ⟨by kernel_rfl, (by intro W' hS'; obtain ⟨z0, z1, z2, z3, z4, z5, z6, z7, z8, z9, z10, z11⟩ := box_cells hS'.1; obtain ⟨y0, y1, y2, y3, y4, y5⟩ := tf_cells hS'.2; go_simp; try with_reducible rfl)⟩) (by assumption) ?_; (try simp only [Act.put, List.setIfInBounds_toArray, List.set_cons_zero, List.set_cons_succ]))
                refine wpAnyH_done (by kernel_rfl) ?_ _
                have HR := Lib.hid (show R10 w _ g A n cap l ab k out e true from ⟨HL5.out.be, hS5.2, fun _ => .inr (.inl ho), fun h => by cases h⟩)
                go_wp2_with fail
                go_meet
                exact ⟨_, rfl, HR.out⟩
              · obtain ⟨ok, hok⟩ : ∃ ok, Hid ((stepE l e k out).isSome = ok) := ⟨_, rfl⟩
                have hkd : e.kind = 0 ∨ e.kind = 1 ∨ e.kind = 2 ∨ e.kind = 3 ∨ e.kind = 4 ∨ e.kind = 5 := by
                  have h1 := HWe.out.kind.1
                  have h2 : e.kind ≤ 5 := by
                    have h3 := HMy.out
                    simp only [mayE, Bool.and_eq_true, decide_eq_true_eq] at h3
                    exact h3.1
                  omega
                rcases hkd with k0 | k0 | k0 | k0 | k0 | k0
                · have HM := fun W => Lib.hid (by have h := EdC.may_any e W HWe.out; rw [HMy.out] at h; unfold Ed.agg at h; exact h)
                  simp only [k0] at HM
                  refine wp_region_held_drew (S := fun w' => Blk w' eb 69 e.cells.toArray ∧ Blk w' ab 120 #[.func (Fn.func 95) #[] #[], .func (Fn.func 96) #[] #[], .func (Fn.func 97) #[] #[], .func (Fn.func 98) #[] #[], .func (Fn.func 99) #[] #[], .func (Fn.func 100) #[] #[]]) (by kernel_rfl) (show _ from ⟨HW.out.1.drew, HW.out.2.1.drew⟩) (fun hHeld => ?_)
                  try simp only [Act.put, List.setIfInBounds_toArray, List.set_cons_zero, List.set_cons_succ]
                  (refine wpAnyH_take (i := 0) (oi := { dst := some 27, op := _, type := _, pos := _, after := _, guard := _ }) (v := ?_) rfl (by kernel_rfl) (by kernel_rfl) (by kernel_rfl) (fun _ _ _ h => h) (Or.inl ⟨by kernel_rfl, (by intro W' hS'; obtain ⟨z0, z1, z2, z3, z4, z5, z6, z7, z8, z9, z10, z11⟩ := box_cells hS'.1; obtain ⟨y0, y1, y2, y3, y4, y5⟩ := tf_cells hS'.2; go_simp; try with_reducible rfl)⟩) (by assumption) ?_; (try simp only [Act.put, List.setIfInBounds_toArray, List.set_cons_zero, List.set_cons_succ]))
                  refine wpAnyH_ready (rs := [1]) (by kernel_rfl) (by simp) ?_
                  refine AllReadyH.cons (o := { dst := some 28, op := _, type := _, pos := _, after := _, guard := _ }) rfl (fun K hK => ?_) AllReadyH.nil
                  go_simp
                  refine ((HM _).out).mono ?_; rintro r w5 ⟨rfl, hb5⟩
                  have hS5 : Blk w5 eb 69 e.cells.toArray ∧ Blk w5 ab 120 #[.func (Fn.func 95) #[] #[], .func (Fn.func 96) #[] #[], .func (Fn.func 97) #[] #[], .func (Fn.func 98) #[] #[], .func (Fn.func 99) #[] #[], .func (Fn.func 100) #[] #[]] := ⟨HW.out.1.drew.ext hb5, HW.out.2.1.drew.ext hb5⟩
                  have HL5 := Lib.hid (HW.out.2.2.ext ((Below.refl _ _).drew.trans hb5))
                  have HStep := Lib.hid (by have h := keep_step HL5.out e HMy.out k0 h63 (by omega) hkl; unfold Ed.agg at h; exact h)
                  rw [k0] at HStep
                  refine hK.out _ _ hS5 (fun hHeld2 => ?_)
                  clear hK K hb5
                  try simp only [Act.put, List.setIfInBounds_toArray, List.set_cons_zero, List.set_cons_succ]
                  obtain ⟨A2, n2, c2', v5, hL5⟩ := HL5.out
                  obtain ⟨A3, n3, c3, rfl, hn3, _, _, _⟩ := hL5.own.form
                  have x2 : w5.cell? ⟨g, 2, none⟩ = some (.slice A3 n3 c3) := hL5.blk.cell 2
                  have hn3' : n3 = out.length := hn3.out
                  have q3 : decide ((2048 : Int) < (n3 : Int)) = false := decide_eq_false (by omega)
                  clear hL5 hn3 hn3'
                  (refine wpAnyH_take (i := 2) (oi := { dst := some 29, op := _, type := _, pos := _, after := _, guard := _ }) (v := ?_) rfl (by kernel_rfl) (by kernel_rfl) (by kernel_rfl) (fun _ _ _ h => h) (Or.inl ⟨by kernel_rfl, (by intro W' hS'; obtain ⟨z0, z1, z2, z3, z4, z5, z6, z7, z8, z9, z10, z11⟩ := box_cells hS'.1; obtain ⟨y0, y1, y2, y3, y4, y5⟩ := tf_cells hS'.2; go_simp; try with_reducible rfl)⟩) (by assumption) ?_; (try simp only [Act.put, List.setIfInBounds_toArray, List.set_cons_zero, List.set_cons_succ]))
                  (refine wpAnyH_take (i := 3) (oi := { dst := some 30, op := _, type := _, pos := _, after := _, guard := _ }) (v := ?_) rfl (by kernel_rfl) (by kernel_rfl) (by kernel_rfl) (fun _ _ _ h => h) (Or.inl ⟨by kernel_rfl, (by intro W' hS'; obtain ⟨z0, z1, z2, z3, z4, z5, z6, z7, z8, z9, z10, z11⟩ := box_cells hS'.1; obtain ⟨y0, y1, y2, y3, y4, y5⟩ := tf_cells hS'.2; go_simp; try with_reducible rfl)⟩) (by assumption) ?_; (try simp only [Act.put, List.setIfInBounds_toArray, List.set_cons_zero, List.set_cons_succ]))
                  (refine wpAnyH_take (i := 4) (oi := { dst := some 31, op := _, type := _, pos := _, after := _, guard := _ }) (v := ?_) rfl (by kernel_rfl) (by kernel_rfl) (by kernel_rfl) (fun _ _ _ h => h) (Or.inl ⟨by kernel_rfl, (by intro W' hS'; obtain ⟨z0, z1, z2, z3, z4, z5, z6, z7, z8, z9, z10, z11⟩ := box_cells hS'.1; obtain ⟨y0, y1, y2, y3, y4, y5⟩ := tf_cells hS'.2; go_simp; try with_reducible rfl)⟩) (by assumption) ?_; (try simp only [Act.put, List.setIfInBounds_toArray, List.set_cons_zero, List.set_cons_succ]))
                  (refine wpAnyH_take (i := 5) (oi := { dst := some 32, op := _, type := _, pos := _, after := _, guard := _ }) (v := ?_) rfl (by kernel_rfl) (by kernel_rfl) (by kernel_rfl) (fun _ _ _ h => h) (Or.inl ⟨by kernel_rfl, (by intro W' hS'; obtain ⟨z0, z1, z2, z3, z4, z5, z6, z7, z8, z9, z10, z11⟩ := box_cells hS'.1; obtain ⟨y0, y1, y2, y3, y4, y5⟩ := tf_cells hS'.2; go_simp; try with_reducible rfl)⟩) (by assumption) ?_; (try simp only [Act.put, List.setIfInBounds_toArray, List.set_cons_zero, List.set_cons_succ]))
                  (refine wpAnyH_take (i := 6) (oi := { dst := some 33, op := _, type := _, pos := _, after := _, guard := _ }) (v := ?_) rfl (by kernel_rfl) (by kernel_rfl) (by kernel_rfl) (fun _ _ _ h => h) (Or.inl ⟨by kernel_rfl, (by intro W' hS'; obtain ⟨z0, z1, z2, z3, z4, z5, z6, z7, z8, z9, z10, z11⟩ := box_cells hS'.1; obtain ⟨y0, y1, y2, y3, y4, y5⟩ := tf_cells hS'.2; go_simp; try with_reducible rfl)⟩) (by assumption) ?_; (try simp only [Act.put, List.setIfInBounds_toArray, List.set_cons_zero, List.set_cons_succ]))
                  refine wpAnyH_ready (rs := [7]) (by kernel_rfl) (by simp) ?_
                  refine AllReadyH.cons (o := { dst := some 34, op := _, type := _, pos := _, after := _, guard := _ }) rfl (fun K hK => ?_) AllReadyH.nil
                  refine Eq.mpr (if_pos (by kernel_rfl)) ?_
                  go_simp
                  refine hK.out _ _ hS5 (fun hHeld3 => ?_)
                  clear hK K
                  try simp only [Act.put, List.setIfInBounds_toArray, List.set_cons_zero, List.set_cons_succ]
                  (refine wpAnyH_take (i := 8) (oi := { dst := some 35, op := _, type := _, pos := _, after := _, guard := _ }) (v := ?_) rfl (by kernel_rfl) (by kernel_rfl) (by kernel_rfl) (fun _ _ _ h => h) (Or.inl ⟨by kernel_rfl, (by intro W' hS'; obtain ⟨z0, z1, z2, z3, z4, z5, z6, z7, z8, z9, z10, z11⟩ := box_cells hS'.1; obtain ⟨y0, y1, y2, y3, y4, y5⟩ := tf_cells hS'.2; go_simp; try with_reducible rfl)⟩) (by assumption) ?_; (try simp only [Act.put, List.setIfInBounds_toArray, List.set_cons_zero, List.set_cons_succ]))
                  (refine wpAnyH_take (i := 9) (oi := { dst := some 36, op := _, type := _, pos := _, after := _, guard := _ }) (v := ?_) rfl (by kernel_rfl) (by kernel_rfl) (by kernel_rfl) (fun _ _ _ h => h) (Or.inl ⟨by kernel_rfl, (by intro W' hS'; obtain ⟨z0, z1, z2, z3, z4, z5, z6, z7, z8, z9, z10, z11⟩ := box_cells hS'.1; obtain ⟨y0, y1, y2, y3, y4, y5⟩ := tf_cells hS'.2; go_simp; try with_reducible rfl)⟩) (by assumption) ?_; (try simp only [Act.put, List.setIfInBounds_toArray, List.set_cons_zero, List.set_cons_succ]))
                  (refine wpAnyH_take (i := 10) (oi := { dst := some 37, op := _, type := _, pos := _, after := _, guard := _ }) (v := ?_) rfl (by kernel_rfl) (by kernel_rfl) (by kernel_rfl) (fun _ _ _ h => h) (Or.inl ⟨by kernel_rfl, (by intro W' hS'; obtain ⟨z0, z1, z2, z3, z4, z5, z6, z7, z8, z9, z10, z11⟩ := box_cells hS'.1; obtain ⟨y0, y1, y2, y3, y4, y5⟩ := tf_cells hS'.2; go_simp; try with_reducible rfl)⟩) (by assumption) ?_; (try simp only [Act.put, List.setIfInBounds_toArray, List.set_cons_zero, List.set_cons_succ]))
                  (refine wpAnyH_take (i := 11) (oi := { dst := some 38, op := _, type := _, pos := _, after := _, guard := _ }) (v := ?_) rfl (by kernel_rfl) (by kernel_rfl) (by kernel_rfl) (fun _ _ _ h => h) (Or.inl ⟨by kernel_rfl, (by intro W' hS'; obtain ⟨z0, z1, z2, z3, z4, z5, z6, z7, z8, z9, z10, z11⟩ := box_cells hS'.1; obtain ⟨y0, y1, y2, y3, y4, y5⟩ := tf_cells hS'.2; go_simp; try with_reducible rfl)⟩) (by assumption) ?_; (try simp only [Act.put, List.setIfInBounds_toArray, List.set_cons_zero, List.set_cons_succ]))
                  (refine wpAnyH_take (i := 12) (oi := { dst := some 39, op := _, type := _, pos := _, after := _, guard := _ }) (v := ?_) rfl (by kernel_rfl) (by kernel_rfl) (by kernel_rfl) (fun _ _ _ h => h) (Or.inl ⟨by kernel_rfl, (by intro W' hS'; obtain ⟨z0, z1, z2, z3, z4, z5, z6, z7, z8, z9, z10, z11⟩ := box_cells hS'.1; obtain ⟨y0, y1, y2, y3, y4, y5⟩ := tf_cells hS'.2; go_simp; try with_reducible rfl)⟩) (by assumption) ?_; (try simp only [Act.put, List.setIfInBounds_toArray, List.set_cons_zero, List.set_cons_succ]))
                  (refine wpAnyH_take (i := 13) (oi := { dst := some 40, op := _, type := _, pos := _, after := _, guard := _ }) (v := ?_) rfl (by kernel_rfl) (by kernel_rfl) (by kernel_rfl) (fun _ _ _ h => h) (Or.inl ⟨by kernel_rfl, (by intro W' hS'; obtain ⟨z0, z1, z2, z3, z4, z5, z6, z7, z8, z9, z10, z11⟩ := box_cells hS'.1; obtain ⟨y0, y1, y2, y3, y4, y5⟩ := tf_cells hS'.2; go_simp; try with_reducible rfl)⟩) (by assumption) ?_; (try simp only [Act.put, List.setIfInBounds_toArray, List.set_cons_zero, List.set_cons_succ]))
                  (refine wpAnyH_take (i := 14) (oi := { dst := some 41, op := _, type := _, pos := _, after := _, guard := _ }) (v := ?_) rfl (by kernel_rfl) (by kernel_rfl) (by kernel_rfl) (fun _ _ _ h => h) (Or.inl ⟨by kernel_rfl, (by intro W' hS'; obtain ⟨z0, z1, z2, z3, z4, z5, z6, z7, z8, z9, z10, z11⟩ := box_cells hS'.1; obtain ⟨y0, y1, y2, y3, y4, y5⟩ := tf_cells hS'.2; go_simp; try with_reducible rfl)⟩) (by assumption) ?_; (try simp only [Act.put, List.setIfInBounds_toArray, List.set_cons_zero, List.set_cons_succ]))
                  (refine wpAnyH_take (i := 15) (oi := { dst := some 42, op := _, type := _, pos := _, after := _, guard := _ }) (v := ?_) rfl (by kernel_rfl) (by kernel_rfl) (by kernel_rfl) (fun _ _ _ h => h) (Or.inl ⟨by kernel_rfl, (by intro W' hS'; obtain ⟨z0, z1, z2, z3, z4, z5, z6, z7, z8, z9, z10, z11⟩ := box_cells hS'.1; obtain ⟨y0, y1, y2, y3, y4, y5⟩ := tf_cells hS'.2; go_simp; try with_reducible rfl)⟩) (by assumption) ?_; (try simp only [Act.put, List.setIfInBounds_toArray, List.set_cons_zero, List.set_cons_succ]))
                  (refine wpAnyH_take (i := 16) (oi := { dst := some 43, op := _, type := _, pos := _, after := _, guard := _ }) (v := ?_) rfl (by kernel_rfl) (by kernel_rfl) (by kernel_rfl) (fun _ _ _ h => h) (Or.inl ⟨by kernel_rfl, (by intro W' hS'; obtain ⟨z0, z1, z2, z3, z4, z5, z6, z7, z8, z9, z10, z11⟩ := box_cells hS'.1; obtain ⟨y0, y1, y2, y3, y4, y5⟩ := tf_cells hS'.2; go_simp; try with_reducible rfl)⟩) (by assumption) ?_; (try simp only [Act.put, List.setIfInBounds_toArray, List.set_cons_zero, List.set_cons_succ]))
                  (refine wpAnyH_take (i := 17) (oi := { dst := some 44, op := _, type := _, pos := _, after := _, guard := _ }) (v := ?_) rfl (by kernel_rfl) (by kernel_rfl) (by kernel_rfl) (fun _ _ _ h => h) (Or.inl ⟨by kernel_rfl, (by intro W' hS'; obtain ⟨z0, z1, z2, z3, z4, z5, z6, z7, z8, z9, z10, z11⟩ := box_cells hS'.1; obtain ⟨y0, y1, y2, y3, y4, y5⟩ := tf_cells hS'.2; go_simp; try with_reducible rfl)⟩) (by assumption) ?_; (try simp only [Act.put, List.setIfInBounds_toArray, List.set_cons_zero, List.set_cons_succ]))
                  refine wpAnyH_ready (rs := [18]) (by kernel_rfl) (by simp) ?_
                  refine AllReadyH.cons (o := { dst := some 45, op := _, type := _, pos := _, after := _, guard := _ }) rfl (fun K hK => ?_) AllReadyH.nil
                  refine Eq.mpr (if_pos (by kernel_rfl)) ?_
                  go_simp
                  ((with_reducible refine (HStep.out).mono ?_); rintro r w6 ⟨hr6, hk6, hb6, hl6⟩)
                  rw [hok.out] at hr6
                  subst hr6
                  have hS6 : Blk w6 eb 69 e.cells.toArray ∧ Blk w6 ab 120 #[.func (Fn.func 95) #[] #[], .func (Fn.func 96) #[] #[], .func (Fn.func 97) #[] #[], .func (Fn.func 98) #[] #[], .func (Fn.func 99) #[] #[], .func (Fn.func 100) #[] #[]] := ⟨hk6 _ _ _ hS5.1 (by decide) (by decide), hk6 _ _ _ hS5.2 (by decide) (by decide)⟩
                  have HL6 := Lib.hid (And.intro hb6 hl6)
                  refine hK.out _ _ hS6 (fun hHeld4 => ?_)
                  clear hK K hk6 hb6 hl6
                  try simp only [Act.put, List.setIfInBounds_toArray, List.set_cons_zero, List.set_cons_succ]
                  (refine wpAnyH_take (i := 19) (oi := { dst := some 46, op := _, type := _, pos := _, after := _, guard := _ }) (v := ?_) rfl (by kernel_rfl) (by kernel_rfl) (by kernel_rfl) (fun _ _ _ h => h) (Or.inl ⟨by kernel_rfl, (by intro W' hS'; obtain ⟨z0, z1, z2, z3, z4, z5, z6, z7, z8, z9, z10, z11⟩ := box_cells hS'.1; obtain ⟨y0, y1, y2, y3, y4, y5⟩ := tf_cells hS'.2; go_simp; try with_reducible rfl)⟩) (by assumption) ?_; (try simp only [Act.put, List.setIfInBounds_toArray, List.set_cons_zero, List.set_cons_succ]))
                  (refine wpAnyH_take (i := 20) (oi := { dst := some 47, op := _, type := _, pos := _, after := _, guard := _ }) (v := ?_) rfl (by kernel_rfl) (by kernel_rfl) (by kernel_rfl) (fun _ _ _ h => h) (Or.inl ⟨by kernel_rfl, (by intro W' hS'; obtain ⟨z0, z1, z2, z3, z4, z5, z6, z7, z8, z9, z10, z11⟩ := box_cells hS'.1; obtain ⟨y0, y1, y2, y3, y4, y5⟩ := tf_cells hS'.2; go_simp; try with_reducible rfl)⟩) (by assumption) ?_; (try simp only [Act.put, List.setIfInBounds_toArray, List.set_cons_zero, List.set_cons_succ]))
                  refine wpAnyH_done (by kernel_rfl) ?_ _
                  have HR := Lib.hid (show R10 w _ g A n cap l ab k out e (!ok) from ⟨HL6.out.1, hS6.2, fun h => .inr (.inr (by have := hok.out; cases hs : stepE l e k out with | none => rfl | some s => rw [hs] at this; simp at this; simp [← this] at h)), fun h => ⟨HMy.out, by omega, by have := hok.out; cases hs : stepE l e k out with | none => rw [hs] at this; simp at this; simp [← this] at h | some s => exact ⟨s.1, s.2, rfl, HL6.out.2 s.1 s.2 hs⟩⟩⟩)
                  go_wp2_with fail
                  go_meet
                  exact ⟨_, rfl, HR.out⟩
                · have HM := fun W => Lib.hid (by have h := EdC.may_any e W HWe.out; rw [HMy.out] at h; unfold Ed.agg at h; exact h)
                  simp only [k0] at HM
                  refine wp_region_held_drew (S := fun w' => Blk w' eb 69 e.cells.toArray ∧ Blk w' ab 120 #[.func (Fn.func 95) #[] #[], .func (Fn.func 96) #[] #[], .func (Fn.func 97) #[] #[], .func (Fn.func 98) #[] #[], .func (Fn.func 99) #[] #[], .func (Fn.func 100) #[] #[]]) (by kernel_rfl) (show _ from ⟨HW.out.1.drew, HW.out.2.1.drew⟩) (fun hHeld => ?_)
                  try simp only [Act.put, List.setIfInBounds_toArray, List.set_cons_zero, List.set_cons_succ]
                  (refine wpAnyH_take (i := 0) (oi := { dst := some 27, op := _, type := _, pos := _, after := _, guard := _ }) (v := ?_) rfl (by kernel_rfl) (by kernel_rfl) (by kernel_rfl) (fun _ _ _ h => h) (Or.inl ⟨by kernel_rfl, (by intro W' hS'; obtain ⟨z0, z1, z2, z3, z4, z5, z6, z7, z8, z9, z10, z11⟩ := box_cells hS'.1; obtain ⟨y0, y1, y2, y3, y4, y5⟩ := tf_cells hS'.2; go_simp; try with_reducible rfl)⟩) (by assumption) ?_; (try simp only [Act.put, List.setIfInBounds_toArray, List.set_cons_zero, List.set_cons_succ]))
                  refine wpAnyH_ready (rs := [1]) (by kernel_rfl) (by simp) ?_
                  refine AllReadyH.cons (o := { dst := some 28, op := _, type := _, pos := _, after := _, guard := _ }) rfl (fun K hK => ?_) AllReadyH.nil
                  go_simp
                  refine ((HM _).out).mono ?_; rintro r w5 ⟨rfl, hb5⟩
                  have hS5 : Blk w5 eb 69 e.cells.toArray ∧ Blk w5 ab 120 #[.func (Fn.func 95) #[] #[], .func (Fn.func 96) #[] #[], .func (Fn.func 97) #[] #[], .func (Fn.func 98) #[] #[], .func (Fn.func 99) #[] #[], .func (Fn.func 100) #[] #[]] := ⟨HW.out.1.drew.ext hb5, HW.out.2.1.drew.ext hb5⟩
                  have HL5 := Lib.hid (HW.out.2.2.ext ((Below.refl _ _).drew.trans hb5))
                  have HStep := Lib.hid (by have h := skip_step HL5.out e HMy.out k0 h63 hkl; unfold Ed.agg at h; exact h)
                  rw [k0] at HStep
                  refine hK.out _ _ hS5 (fun hHeld2 => ?_)
                  clear hK K hb5
                  try simp only [Act.put, List.setIfInBounds_toArray, List.set_cons_zero, List.set_cons_succ]
                  obtain ⟨A2, n2, c2', v5, hL5⟩ := HL5.out
                  obtain ⟨A3, n3, c3, rfl, hn3, _, _, _⟩ := hL5.own.form
                  have x2 : w5.cell? ⟨g, 2, none⟩ = some (.slice A3 n3 c3) := hL5.blk.cell 2
                  have hn3' : n3 = out.length := hn3.out
                  have q3 : decide ((2048 : Int) < (n3 : Int)) = false := decide_eq_false (by omega)
                  clear hL5 hn3 hn3'
                  (refine wpAnyH_take (i := 2) (oi := { dst := some 29, op := _, type := _, pos := _, after := _, guard := _ }) (v := ?_) rfl (by kernel_rfl) (by kernel_rfl) (by kernel_rfl) (fun _ _ _ h => h) (Or.inl ⟨by kernel_rfl, (by intro W' hS'; obtain ⟨z0, z1, z2, z3, z4, z5, z6, z7, z8, z9, z10, z11⟩ := box_cells hS'.1; obtain ⟨y0, y1, y2, y3, y4, y5⟩ := tf_cells hS'.2; go_simp; try with_reducible rfl)⟩) (by assumption) ?_; (try simp only [Act.put, List.setIfInBounds_toArray, List.set_cons_zero, List.set_cons_succ]))
                  (refine wpAnyH_take (i := 3) (oi := { dst := some 30, op := _, type := _, pos := _, after := _, guard := _ }) (v := ?_) rfl (by kernel_rfl) (by kernel_rfl) (by kernel_rfl) (fun _ _ _ h => h) (Or.inl ⟨by kernel_rfl, (by intro W' hS'; obtain ⟨z0, z1, z2, z3, z4, z5, z6, z7, z8, z9, z10, z11⟩ := box_cells hS'.1; obtain ⟨y0, y1, y2, y3, y4, y5⟩ := tf_cells hS'.2; go_simp; try with_reducible rfl)⟩) (by assumption) ?_; (try simp only [Act.put, List.setIfInBounds_toArray, List.set_cons_zero, List.set_cons_succ]))
                  (refine wpAnyH_take (i := 4) (oi := { dst := some 31, op := _, type := _, pos := _, after := _, guard := _ }) (v := ?_) rfl (by kernel_rfl) (by kernel_rfl) (by kernel_rfl) (fun _ _ _ h => h) (Or.inl ⟨by kernel_rfl, (by intro W' hS'; obtain ⟨z0, z1, z2, z3, z4, z5, z6, z7, z8, z9, z10, z11⟩ := box_cells hS'.1; obtain ⟨y0, y1, y2, y3, y4, y5⟩ := tf_cells hS'.2; go_simp; try with_reducible rfl)⟩) (by assumption) ?_; (try simp only [Act.put, List.setIfInBounds_toArray, List.set_cons_zero, List.set_cons_succ]))
                  (refine wpAnyH_take (i := 5) (oi := { dst := some 32, op := _, type := _, pos := _, after := _, guard := _ }) (v := ?_) rfl (by kernel_rfl) (by kernel_rfl) (by kernel_rfl) (fun _ _ _ h => h) (Or.inl ⟨by kernel_rfl, (by intro W' hS'; obtain ⟨z0, z1, z2, z3, z4, z5, z6, z7, z8, z9, z10, z11⟩ := box_cells hS'.1; obtain ⟨y0, y1, y2, y3, y4, y5⟩ := tf_cells hS'.2; go_simp; try with_reducible rfl)⟩) (by assumption) ?_; (try simp only [Act.put, List.setIfInBounds_toArray, List.set_cons_zero, List.set_cons_succ]))
                  (refine wpAnyH_take (i := 6) (oi := { dst := some 33, op := _, type := _, pos := _, after := _, guard := _ }) (v := ?_) rfl (by kernel_rfl) (by kernel_rfl) (by kernel_rfl) (fun _ _ _ h => h) (Or.inl ⟨by kernel_rfl, (by intro W' hS'; obtain ⟨z0, z1, z2, z3, z4, z5, z6, z7, z8, z9, z10, z11⟩ := box_cells hS'.1; obtain ⟨y0, y1, y2, y3, y4, y5⟩ := tf_cells hS'.2; go_simp; try with_reducible rfl)⟩) (by assumption) ?_; (try simp only [Act.put, List.setIfInBounds_toArray, List.set_cons_zero, List.set_cons_succ]))
                  refine wpAnyH_ready (rs := [7]) (by kernel_rfl) (by simp) ?_
                  refine AllReadyH.cons (o := { dst := some 34, op := _, type := _, pos := _, after := _, guard := _ }) rfl (fun K hK => ?_) AllReadyH.nil
                  refine Eq.mpr (if_pos (by kernel_rfl)) ?_
                  go_simp
                  refine hK.out _ _ hS5 (fun hHeld3 => ?_)
                  clear hK K
                  try simp only [Act.put, List.setIfInBounds_toArray, List.set_cons_zero, List.set_cons_succ]
                  (refine wpAnyH_take (i := 8) (oi := { dst := some 35, op := _, type := _, pos := _, after := _, guard := _ }) (v := ?_) rfl (by kernel_rfl) (by kernel_rfl) (by kernel_rfl) (fun _ _ _ h => h) (Or.inl ⟨by kernel_rfl, (by intro W' hS'; obtain ⟨z0, z1, z2, z3, z4, z5, z6, z7, z8, z9, z10, z11⟩ := box_cells hS'.1; obtain ⟨y0, y1, y2, y3, y4, y5⟩ := tf_cells hS'.2; go_simp; try with_reducible rfl)⟩) (by assumption) ?_; (try simp only [Act.put, List.setIfInBounds_toArray, List.set_cons_zero, List.set_cons_succ]))
                  (refine wpAnyH_take (i := 9) (oi := { dst := some 36, op := _, type := _, pos := _, after := _, guard := _ }) (v := ?_) rfl (by kernel_rfl) (by kernel_rfl) (by kernel_rfl) (fun _ _ _ h => h) (Or.inl ⟨by kernel_rfl, (by intro W' hS'; obtain ⟨z0, z1, z2, z3, z4, z5, z6, z7, z8, z9, z10, z11⟩ := box_cells hS'.1; obtain ⟨y0, y1, y2, y3, y4, y5⟩ := tf_cells hS'.2; go_simp; try with_reducible rfl)⟩) (by assumption) ?_; (try simp only [Act.put, List.setIfInBounds_toArray, List.set_cons_zero, List.set_cons_succ]))
                  (refine wpAnyH_take (i := 10) (oi := { dst := some 37, op := _, type := _, pos := _, after := _, guard := _ }) (v := ?_) rfl (by kernel_rfl) (by kernel_rfl) (by kernel_rfl) (fun _ _ _ h => h) (Or.inl ⟨by kernel_rfl, (by intro W' hS'; obtain ⟨z0, z1, z2, z3, z4, z5, z6, z7, z8, z9, z10, z11⟩ := box_cells hS'.1; obtain ⟨y0, y1, y2, y3, y4, y5⟩ := tf_cells hS'.2; go_simp; try with_reducible rfl)⟩) (by assumption) ?_; (try simp only [Act.put, List.setIfInBounds_toArray, List.set_cons_zero, List.set_cons_succ]))
                  (refine wpAnyH_take (i := 11) (oi := { dst := some 38, op := _, type := _, pos := _, after := _, guard := _ }) (v := ?_) rfl (by kernel_rfl) (by kernel_rfl) (by kernel_rfl) (fun _ _ _ h => h) (Or.inl ⟨by kernel_rfl, (by intro W' hS'; obtain ⟨z0, z1, z2, z3, z4, z5, z6, z7, z8, z9, z10, z11⟩ := box_cells hS'.1; obtain ⟨y0, y1, y2, y3, y4, y5⟩ := tf_cells hS'.2; go_simp; try with_reducible rfl)⟩) (by assumption) ?_; (try simp only [Act.put, List.setIfInBounds_toArray, List.set_cons_zero, List.set_cons_succ]))
                  (refine wpAnyH_take (i := 12) (oi := { dst := some 39, op := _, type := _, pos := _, after := _, guard := _ }) (v := ?_) rfl (by kernel_rfl) (by kernel_rfl) (by kernel_rfl) (fun _ _ _ h => h) (Or.inl ⟨by kernel_rfl, (by intro W' hS'; obtain ⟨z0, z1, z2, z3, z4, z5, z6, z7, z8, z9, z10, z11⟩ := box_cells hS'.1; obtain ⟨y0, y1, y2, y3, y4, y5⟩ := tf_cells hS'.2; go_simp; try with_reducible rfl)⟩) (by assumption) ?_; (try simp only [Act.put, List.setIfInBounds_toArray, List.set_cons_zero, List.set_cons_succ]))
                  (refine wpAnyH_take (i := 13) (oi := { dst := some 40, op := _, type := _, pos := _, after := _, guard := _ }) (v := ?_) rfl (by kernel_rfl) (by kernel_rfl) (by kernel_rfl) (fun _ _ _ h => h) (Or.inl ⟨by kernel_rfl, (by intro W' hS'; obtain ⟨z0, z1, z2, z3, z4, z5, z6, z7, z8, z9, z10, z11⟩ := box_cells hS'.1; obtain ⟨y0, y1, y2, y3, y4, y5⟩ := tf_cells hS'.2; go_simp; try with_reducible rfl)⟩) (by assumption) ?_; (try simp only [Act.put, List.setIfInBounds_toArray, List.set_cons_zero, List.set_cons_succ]))
                  (refine wpAnyH_take (i := 14) (oi := { dst := some 41, op := _, type := _, pos := _, after := _, guard := _ }) (v := ?_) rfl (by kernel_rfl) (by kernel_rfl) (by kernel_rfl) (fun _ _ _ h => h) (Or.inl ⟨by kernel_rfl, (by intro W' hS'; obtain ⟨z0, z1, z2, z3, z4, z5, z6, z7, z8, z9, z10, z11⟩ := box_cells hS'.1; obtain ⟨y0, y1, y2, y3, y4, y5⟩ := tf_cells hS'.2; go_simp; try with_reducible rfl)⟩) (by assumption) ?_; (try simp only [Act.put, List.setIfInBounds_toArray, List.set_cons_zero, List.set_cons_succ]))
                  (refine wpAnyH_take (i := 15) (oi := { dst := some 42, op := _, type := _, pos := _, after := _, guard := _ }) (v := ?_) rfl (by kernel_rfl) (by kernel_rfl) (by kernel_rfl) (fun _ _ _ h => h) (Or.inl ⟨by kernel_rfl, (by intro W' hS'; obtain ⟨z0, z1, z2, z3, z4, z5, z6, z7, z8, z9, z10, z11⟩ := box_cells hS'.1; obtain ⟨y0, y1, y2, y3, y4, y5⟩ := tf_cells hS'.2; go_simp; try with_reducible rfl)⟩) (by assumption) ?_; (try simp only [Act.put, List.setIfInBounds_toArray, List.set_cons_zero, List.set_cons_succ]))
                  (refine wpAnyH_take (i := 16) (oi := { dst := some 43, op := _, type := _, pos := _, after := _, guard := _ }) (v := ?_) rfl (by kernel_rfl) (by kernel_rfl) (by kernel_rfl) (fun _ _ _ h => h) (Or.inl ⟨by kernel_rfl, (by intro W' hS'; obtain ⟨z0, z1, z2, z3, z4, z5, z6, z7, z8, z9, z10, z11⟩ := box_cells hS'.1; obtain ⟨y0, y1, y2, y3, y4, y5⟩ := tf_cells hS'.2; go_simp; try with_reducible rfl)⟩) (by assumption) ?_; (try simp only [Act.put, List.setIfInBounds_toArray, List.set_cons_zero, List.set_cons_succ]))
                  (refine wpAnyH_take (i := 17) (oi := { dst := some 44, op := _, type := _, pos := _, after := _, guard := _ }) (v := ?_) rfl (by kernel_rfl) (by kernel_rfl) (by kernel_rfl) (fun _ _ _ h => h) (Or.inl ⟨by kernel_rfl, (by intro W' hS'; obtain ⟨z0, z1, z2, z3, z4, z5, z6, z7, z8, z9, z10, z11⟩ := box_cells hS'.1; obtain ⟨y0, y1, y2, y3, y4, y5⟩ := tf_cells hS'.2; go_simp; try with_reducible rfl)⟩) (by assumption) ?_; (try simp only [Act.put, List.setIfInBounds_toArray, List.set_cons_zero, List.set_cons_succ]))
                  refine wpAnyH_ready (rs := [18]) (by kernel_rfl) (by simp) ?_
                  refine AllReadyH.cons (o := { dst := some 45, op := _, type := _, pos := _, after := _, guard := _ }) rfl (fun K hK => ?_) AllReadyH.nil
                  refine Eq.mpr (if_pos (by kernel_rfl)) ?_
                  go_simp
                  ((with_reducible refine (HStep.out).mono ?_); rintro r w6 ⟨hr6, hk6, hb6, hl6⟩)
                  rw [hok.out] at hr6
                  subst hr6
                  have hS6 : Blk w6 eb 69 e.cells.toArray ∧ Blk w6 ab 120 #[.func (Fn.func 95) #[] #[], .func (Fn.func 96) #[] #[], .func (Fn.func 97) #[] #[], .func (Fn.func 98) #[] #[], .func (Fn.func 99) #[] #[], .func (Fn.func 100) #[] #[]] := ⟨hk6 _ _ _ hS5.1 (by decide) (by decide), hk6 _ _ _ hS5.2 (by decide) (by decide)⟩
                  have HL6 := Lib.hid (And.intro hb6 hl6)
                  refine hK.out _ _ hS6 (fun hHeld4 => ?_)
                  clear hK K hk6 hb6 hl6
                  try simp only [Act.put, List.setIfInBounds_toArray, List.set_cons_zero, List.set_cons_succ]
                  (refine wpAnyH_take (i := 19) (oi := { dst := some 46, op := _, type := _, pos := _, after := _, guard := _ }) (v := ?_) rfl (by kernel_rfl) (by kernel_rfl) (by kernel_rfl) (fun _ _ _ h => h) (Or.inl ⟨by kernel_rfl, (by intro W' hS'; obtain ⟨z0, z1, z2, z3, z4, z5, z6, z7, z8, z9, z10, z11⟩ := box_cells hS'.1; obtain ⟨y0, y1, y2, y3, y4, y5⟩ := tf_cells hS'.2; go_simp; try with_reducible rfl)⟩) (by assumption) ?_; (try simp only [Act.put, List.setIfInBounds_toArray, List.set_cons_zero, List.set_cons_succ]))
                  (refine wpAnyH_take (i := 20) (oi := { dst := some 47, op := _, type := _, pos := _, after := _, guard := _ }) (v := ?_) rfl (by kernel_rfl) (by kernel_rfl) (by kernel_rfl) (fun _ _ _ h => h) (Or.inl ⟨by kernel_rfl, (by intro W' hS'; obtain ⟨z0, z1, z2, z3, z4, z5, z6, z7, z8, z9, z10, z11⟩ := box_cells hS'.1; obtain ⟨y0, y1, y2, y3, y4, y5⟩ := tf_cells hS'.2; go_simp; try with_reducible rfl)⟩) (by assumption) ?_; (try simp only [Act.put, List.setIfInBounds_toArray, List.set_cons_zero, List.set_cons_succ]))
                  refine wpAnyH_done (by kernel_rfl) ?_ _
                  have HR := Lib.hid (show R10 w _ g A n cap l ab k out e (!ok) from ⟨HL6.out.1, hS6.2, fun h => .inr (.inr (by have := hok.out; cases hs : stepE l e k out with | none => rfl | some s => rw [hs] at this; simp at this; simp [← this] at h)), fun h => ⟨HMy.out, by omega, by have := hok.out; cases hs : stepE l e k out with | none => rw [hs] at this; simp at this; simp [← this] at h | some s => exact ⟨s.1, s.2, rfl, HL6.out.2 s.1 s.2 hs⟩⟩⟩)
                  go_wp2_with fail
                  go_meet
                  exact ⟨_, rfl, HR.out⟩
                · have HM := fun W => Lib.hid (by have h := EdC.may_any e W HWe.out; rw [HMy.out] at h; unfold Ed.agg at h; exact h)
                  simp only [k0] at HM
                  refine wp_region_held_drew (S := fun w' => Blk w' eb 69 e.cells.toArray ∧ Blk w' ab 120 #[.func (Fn.func 95) #[] #[], .func (Fn.func 96) #[] #[], .func (Fn.func 97) #[] #[], .func (Fn.func 98) #[] #[], .func (Fn.func 99) #[] #[], .func (Fn.func 100) #[] #[]]) (by kernel_rfl) (show _ from ⟨HW.out.1.drew, HW.out.2.1.drew⟩) (fun hHeld => ?_)
                  try simp only [Act.put, List.setIfInBounds_toArray, List.set_cons_zero, List.set_cons_succ]
                  (refine wpAnyH_take (i := 0) (oi := { dst := some 27, op := _, type := _, pos := _, after := _, guard := _ }) (v := ?_) rfl (by kernel_rfl) (by kernel_rfl) (by kernel_rfl) (fun _ _ _ h => h) (Or.inl ⟨by kernel_rfl, (by intro W' hS'; obtain ⟨z0, z1, z2, z3, z4, z5, z6, z7, z8, z9, z10, z11⟩ := box_cells hS'.1; obtain ⟨y0, y1, y2, y3, y4, y5⟩ := tf_cells hS'.2; go_simp; try with_reducible rfl)⟩) (by assumption) ?_; (try simp only [Act.put, List.setIfInBounds_toArray, List.set_cons_zero, List.set_cons_succ]))
                  refine wpAnyH_ready (rs := [1]) (by kernel_rfl) (by simp) ?_
                  refine AllReadyH.cons (o := { dst := some 28, op := _, type := _, pos := _, after := _, guard := _ }) rfl (fun K hK => ?_) AllReadyH.nil
                  go_simp
                  refine ((HM _).out).mono ?_; rintro r w5 ⟨rfl, hb5⟩
                  have hS5 : Blk w5 eb 69 e.cells.toArray ∧ Blk w5 ab 120 #[.func (Fn.func 95) #[] #[], .func (Fn.func 96) #[] #[], .func (Fn.func 97) #[] #[], .func (Fn.func 98) #[] #[], .func (Fn.func 99) #[] #[], .func (Fn.func 100) #[] #[]] := ⟨HW.out.1.drew.ext hb5, HW.out.2.1.drew.ext hb5⟩
                  have HL5 := Lib.hid (HW.out.2.2.ext ((Below.refl _ _).drew.trans hb5))
                  have HStep := Lib.hid (by have h := insert_step HL5.out e k0 (by omega); unfold Ed.agg at h; exact h)
                  rw [k0] at HStep
                  refine hK.out _ _ hS5 (fun hHeld2 => ?_)
                  clear hK K hb5
                  try simp only [Act.put, List.setIfInBounds_toArray, List.set_cons_zero, List.set_cons_succ]
                  obtain ⟨A2, n2, c2', v5, hL5⟩ := HL5.out
                  obtain ⟨A3, n3, c3, rfl, hn3, _, _, _⟩ := hL5.own.form
                  have x2 : w5.cell? ⟨g, 2, none⟩ = some (.slice A3 n3 c3) := hL5.blk.cell 2
                  have hn3' : n3 = out.length := hn3.out
                  have q3 : decide ((2048 : Int) < (n3 : Int)) = false := decide_eq_false (by omega)
                  clear hL5 hn3 hn3'
                  (refine wpAnyH_take (i := 2) (oi := { dst := some 29, op := _, type := _, pos := _, after := _, guard := _ }) (v := ?_) rfl (by kernel_rfl) (by kernel_rfl) (by kernel_rfl) (fun _ _ _ h => h) (Or.inl ⟨by kernel_rfl, (by intro W' hS'; obtain ⟨z0, z1, z2, z3, z4, z5, z6, z7, z8, z9, z10, z11⟩ := box_cells hS'.1; obtain ⟨y0, y1, y2, y3, y4, y5⟩ := tf_cells hS'.2; go_simp; try with_reducible rfl)⟩) (by assumption) ?_; (try simp only [Act.put, List.setIfInBounds_toArray, List.set_cons_zero, List.set_cons_succ]))
                  (refine wpAnyH_take (i := 3) (oi := { dst := some 30, op := _, type := _, pos := _, after := _, guard := _ }) (v := ?_) rfl (by kernel_rfl) (by kernel_rfl) (by kernel_rfl) (fun _ _ _ h => h) (Or.inl ⟨by kernel_rfl, (by intro W' hS'; obtain ⟨z0, z1, z2, z3, z4, z5, z6, z7, z8, z9, z10, z11⟩ := box_cells hS'.1; obtain ⟨y0, y1, y2, y3, y4, y5⟩ := tf_cells hS'.2; go_simp; try with_reducible rfl)⟩) (by assumption) ?_; (try simp only [Act.put, List.setIfInBounds_toArray, List.set_cons_zero, List.set_cons_succ]))
                  (refine wpAnyH_take (i := 4) (oi := { dst := some 31, op := _, type := _, pos := _, after := _, guard := _ }) (v := ?_) rfl (by kernel_rfl) (by kernel_rfl) (by kernel_rfl) (fun _ _ _ h => h) (Or.inl ⟨by kernel_rfl, (by intro W' hS'; obtain ⟨z0, z1, z2, z3, z4, z5, z6, z7, z8, z9, z10, z11⟩ := box_cells hS'.1; obtain ⟨y0, y1, y2, y3, y4, y5⟩ := tf_cells hS'.2; go_simp; try with_reducible rfl)⟩) (by assumption) ?_; (try simp only [Act.put, List.setIfInBounds_toArray, List.set_cons_zero, List.set_cons_succ]))
                  (refine wpAnyH_take (i := 5) (oi := { dst := some 32, op := _, type := _, pos := _, after := _, guard := _ }) (v := ?_) rfl (by kernel_rfl) (by kernel_rfl) (by kernel_rfl) (fun _ _ _ h => h) (Or.inl ⟨by kernel_rfl, (by intro W' hS'; obtain ⟨z0, z1, z2, z3, z4, z5, z6, z7, z8, z9, z10, z11⟩ := box_cells hS'.1; obtain ⟨y0, y1, y2, y3, y4, y5⟩ := tf_cells hS'.2; go_simp; try with_reducible rfl)⟩) (by assumption) ?_; (try simp only [Act.put, List.setIfInBounds_toArray, List.set_cons_zero, List.set_cons_succ]))
                  (refine wpAnyH_take (i := 6) (oi := { dst := some 33, op := _, type := _, pos := _, after := _, guard := _ }) (v := ?_) rfl (by kernel_rfl) (by kernel_rfl) (by kernel_rfl) (fun _ _ _ h => h) (Or.inl ⟨by kernel_rfl, (by intro W' hS'; obtain ⟨z0, z1, z2, z3, z4, z5, z6, z7, z8, z9, z10, z11⟩ := box_cells hS'.1; obtain ⟨y0, y1, y2, y3, y4, y5⟩ := tf_cells hS'.2; go_simp; try with_reducible rfl)⟩) (by assumption) ?_; (try simp only [Act.put, List.setIfInBounds_toArray, List.set_cons_zero, List.set_cons_succ]))
                  refine wpAnyH_ready (rs := [7]) (by kernel_rfl) (by simp) ?_
                  refine AllReadyH.cons (o := { dst := some 34, op := _, type := _, pos := _, after := _, guard := _ }) rfl (fun K hK => ?_) AllReadyH.nil
                  refine Eq.mpr (if_pos (by kernel_rfl)) ?_
                  go_simp
                  refine hK.out _ _ hS5 (fun hHeld3 => ?_)
                  clear hK K
                  try simp only [Act.put, List.setIfInBounds_toArray, List.set_cons_zero, List.set_cons_succ]
                  (refine wpAnyH_take (i := 8) (oi := { dst := some 35, op := _, type := _, pos := _, after := _, guard := _ }) (v := ?_) rfl (by kernel_rfl) (by kernel_rfl) (by kernel_rfl) (fun _ _ _ h => h) (Or.inl ⟨by kernel_rfl, (by intro W' hS'; obtain ⟨z0, z1, z2, z3, z4, z5, z6, z7, z8, z9, z10, z11⟩ := box_cells hS'.1; obtain ⟨y0, y1, y2, y3, y4, y5⟩ := tf_cells hS'.2; go_simp; try with_reducible rfl)⟩) (by assumption) ?_; (try simp only [Act.put, List.setIfInBounds_toArray, List.set_cons_zero, List.set_cons_succ]))
                  (refine wpAnyH_take (i := 9) (oi := { dst := some 36, op := _, type := _, pos := _, after := _, guard := _ }) (v := ?_) rfl (by kernel_rfl) (by kernel_rfl) (by kernel_rfl) (fun _ _ _ h => h) (Or.inl ⟨by kernel_rfl, (by intro W' hS'; obtain ⟨z0, z1, z2, z3, z4, z5, z6, z7, z8, z9, z10, z11⟩ := box_cells hS'.1; obtain ⟨y0, y1, y2, y3, y4, y5⟩ := tf_cells hS'.2; go_simp; try with_reducible rfl)⟩) (by assumption) ?_; (try simp only [Act.put, List.setIfInBounds_toArray, List.set_cons_zero, List.set_cons_succ]))
                  (refine wpAnyH_take (i := 10) (oi := { dst := some 37, op := _, type := _, pos := _, after := _, guard := _ }) (v := ?_) rfl (by kernel_rfl) (by kernel_rfl) (by kernel_rfl) (fun _ _ _ h => h) (Or.inl ⟨by kernel_rfl, (by intro W' hS'; obtain ⟨z0, z1, z2, z3, z4, z5, z6, z7, z8, z9, z10, z11⟩ := box_cells hS'.1; obtain ⟨y0, y1, y2, y3, y4, y5⟩ := tf_cells hS'.2; go_simp; try with_reducible rfl)⟩) (by assumption) ?_; (try simp only [Act.put, List.setIfInBounds_toArray, List.set_cons_zero, List.set_cons_succ]))
                  (refine wpAnyH_take (i := 11) (oi := { dst := some 38, op := _, type := _, pos := _, after := _, guard := _ }) (v := ?_) rfl (by kernel_rfl) (by kernel_rfl) (by kernel_rfl) (fun _ _ _ h => h) (Or.inl ⟨by kernel_rfl, (by intro W' hS'; obtain ⟨z0, z1, z2, z3, z4, z5, z6, z7, z8, z9, z10, z11⟩ := box_cells hS'.1; obtain ⟨y0, y1, y2, y3, y4, y5⟩ := tf_cells hS'.2; go_simp; try with_reducible rfl)⟩) (by assumption) ?_; (try simp only [Act.put, List.setIfInBounds_toArray, List.set_cons_zero, List.set_cons_succ]))
                  (refine wpAnyH_take (i := 12) (oi := { dst := some 39, op := _, type := _, pos := _, after := _, guard := _ }) (v := ?_) rfl (by kernel_rfl) (by kernel_rfl) (by kernel_rfl) (fun _ _ _ h => h) (Or.inl ⟨by kernel_rfl, (by intro W' hS'; obtain ⟨z0, z1, z2, z3, z4, z5, z6, z7, z8, z9, z10, z11⟩ := box_cells hS'.1; obtain ⟨y0, y1, y2, y3, y4, y5⟩ := tf_cells hS'.2; go_simp; try with_reducible rfl)⟩) (by assumption) ?_; (try simp only [Act.put, List.setIfInBounds_toArray, List.set_cons_zero, List.set_cons_succ]))
                  (refine wpAnyH_take (i := 13) (oi := { dst := some 40, op := _, type := _, pos := _, after := _, guard := _ }) (v := ?_) rfl (by kernel_rfl) (by kernel_rfl) (by kernel_rfl) (fun _ _ _ h => h) (Or.inl ⟨by kernel_rfl, (by intro W' hS'; obtain ⟨z0, z1, z2, z3, z4, z5, z6, z7, z8, z9, z10, z11⟩ := box_cells hS'.1; obtain ⟨y0, y1, y2, y3, y4, y5⟩ := tf_cells hS'.2; go_simp; try with_reducible rfl)⟩) (by assumption) ?_; (try simp only [Act.put, List.setIfInBounds_toArray, List.set_cons_zero, List.set_cons_succ]))
                  (refine wpAnyH_take (i := 14) (oi := { dst := some 41, op := _, type := _, pos := _, after := _, guard := _ }) (v := ?_) rfl (by kernel_rfl) (by kernel_rfl) (by kernel_rfl) (fun _ _ _ h => h) (Or.inl ⟨by kernel_rfl, (by intro W' hS'; obtain ⟨z0, z1, z2, z3, z4, z5, z6, z7, z8, z9, z10, z11⟩ := box_cells hS'.1; obtain ⟨y0, y1, y2, y3, y4, y5⟩ := tf_cells hS'.2; go_simp; try with_reducible rfl)⟩) (by assumption) ?_; (try simp only [Act.put, List.setIfInBounds_toArray, List.set_cons_zero, List.set_cons_succ]))
                  (refine wpAnyH_take (i := 15) (oi := { dst := some 42, op := _, type := _, pos := _, after := _, guard := _ }) (v := ?_) rfl (by kernel_rfl) (by kernel_rfl) (by kernel_rfl) (fun _ _ _ h => h) (Or.inl ⟨by kernel_rfl, (by intro W' hS'; obtain ⟨z0, z1, z2, z3, z4, z5, z6, z7, z8, z9, z10, z11⟩ := box_cells hS'.1; obtain ⟨y0, y1, y2, y3, y4, y5⟩ := tf_cells hS'.2; go_simp; try with_reducible rfl)⟩) (by assumption) ?_; (try simp only [Act.put, List.setIfInBounds_toArray, List.set_cons_zero, List.set_cons_succ]))
                  (refine wpAnyH_take (i := 16) (oi := { dst := some 43, op := _, type := _, pos := _, after := _, guard := _ }) (v := ?_) rfl (by kernel_rfl) (by kernel_rfl) (by kernel_rfl) (fun _ _ _ h => h) (Or.inl ⟨by kernel_rfl, (by intro W' hS'; obtain ⟨z0, z1, z2, z3, z4, z5, z6, z7, z8, z9, z10, z11⟩ := box_cells hS'.1; obtain ⟨y0, y1, y2, y3, y4, y5⟩ := tf_cells hS'.2; go_simp; try with_reducible rfl)⟩) (by assumption) ?_; (try simp only [Act.put, List.setIfInBounds_toArray, List.set_cons_zero, List.set_cons_succ]))
                  (refine wpAnyH_take (i := 17) (oi := { dst := some 44, op := _, type := _, pos := _, after := _, guard := _ }) (v := ?_) rfl (by kernel_rfl) (by kernel_rfl) (by kernel_rfl) (fun _ _ _ h => h) (Or.inl ⟨by kernel_rfl, (by intro W' hS'; obtain ⟨z0, z1, z2, z3, z4, z5, z6, z7, z8, z9, z10, z11⟩ := box_cells hS'.1; obtain ⟨y0, y1, y2, y3, y4, y5⟩ := tf_cells hS'.2; go_simp; try with_reducible rfl)⟩) (by assumption) ?_; (try simp only [Act.put, List.setIfInBounds_toArray, List.set_cons_zero, List.set_cons_succ]))
                  refine wpAnyH_ready (rs := [18]) (by kernel_rfl) (by simp) ?_
                  refine AllReadyH.cons (o := { dst := some 45, op := _, type := _, pos := _, after := _, guard := _ }) rfl (fun K hK => ?_) AllReadyH.nil
                  refine Eq.mpr (if_pos (by kernel_rfl)) ?_
                  go_simp
                  ((with_reducible refine (HStep.out).mono ?_); rintro r w6 ⟨hr6, hk6, hb6, hl6⟩)
                  rw [hok.out] at hr6
                  subst hr6
                  have hS6 : Blk w6 eb 69 e.cells.toArray ∧ Blk w6 ab 120 #[.func (Fn.func 95) #[] #[], .func (Fn.func 96) #[] #[], .func (Fn.func 97) #[] #[], .func (Fn.func 98) #[] #[], .func (Fn.func 99) #[] #[], .func (Fn.func 100) #[] #[]] := ⟨hk6 _ _ _ hS5.1 (by decide) (by decide), hk6 _ _ _ hS5.2 (by decide) (by decide)⟩
                  have HL6 := Lib.hid (And.intro hb6 hl6)
                  refine hK.out _ _ hS6 (fun hHeld4 => ?_)
                  clear hK K hk6 hb6 hl6
                  try simp only [Act.put, List.setIfInBounds_toArray, List.set_cons_zero, List.set_cons_succ]
                  (refine wpAnyH_take (i := 19) (oi := { dst := some 46, op := _, type := _, pos := _, after := _, guard := _ }) (v := ?_) rfl (by kernel_rfl) (by kernel_rfl) (by kernel_rfl) (fun _ _ _ h => h) (Or.inl ⟨by kernel_rfl, (by intro W' hS'; obtain ⟨z0, z1, z2, z3, z4, z5, z6, z7, z8, z9, z10, z11⟩ := box_cells hS'.1; obtain ⟨y0, y1, y2, y3, y4, y5⟩ := tf_cells hS'.2; go_simp; try with_reducible rfl)⟩) (by assumption) ?_; (try simp only [Act.put, List.setIfInBounds_toArray, List.set_cons_zero, List.set_cons_succ]))
                  (refine wpAnyH_take (i := 20) (oi := { dst := some 47, op := _, type := _, pos := _, after := _, guard := _ }) (v := ?_) rfl (by kernel_rfl) (by kernel_rfl) (by kernel_rfl) (fun _ _ _ h => h) (Or.inl ⟨by kernel_rfl, (by intro W' hS'; obtain ⟨z0, z1, z2, z3, z4, z5, z6, z7, z8, z9, z10, z11⟩ := box_cells hS'.1; obtain ⟨y0, y1, y2, y3, y4, y5⟩ := tf_cells hS'.2; go_simp; try with_reducible rfl)⟩) (by assumption) ?_; (try simp only [Act.put, List.setIfInBounds_toArray, List.set_cons_zero, List.set_cons_succ]))
                  refine wpAnyH_done (by kernel_rfl) ?_ _
                  have HR := Lib.hid (show R10 w _ g A n cap l ab k out e (!ok) from ⟨HL6.out.1, hS6.2, fun h => .inr (.inr (by have := hok.out; cases hs : stepE l e k out with | none => rfl | some s => rw [hs] at this; simp at this; simp [← this] at h)), fun h => ⟨HMy.out, by omega, by have := hok.out; cases hs : stepE l e k out with | none => rw [hs] at this; simp at this; simp [← this] at h | some s => exact ⟨s.1, s.2, rfl, HL6.out.2 s.1 s.2 hs⟩⟩⟩)
                  go_wp2_with fail
                  go_meet
                  exact ⟨_, rfl, HR.out⟩
                · have HM := fun W => Lib.hid (by have h := EdC.may_any e W HWe.out; rw [HMy.out] at h; unfold Ed.agg at h; exact h)
                  simp only [k0] at HM
                  refine wp_region_held_drew (S := fun w' => Blk w' eb 69 e.cells.toArray ∧ Blk w' ab 120 #[.func (Fn.func 95) #[] #[], .func (Fn.func 96) #[] #[], .func (Fn.func 97) #[] #[], .func (Fn.func 98) #[] #[], .func (Fn.func 99) #[] #[], .func (Fn.func 100) #[] #[]]) (by kernel_rfl) (show _ from ⟨HW.out.1.drew, HW.out.2.1.drew⟩) (fun hHeld => ?_)
                  try simp only [Act.put, List.setIfInBounds_toArray, List.set_cons_zero, List.set_cons_succ]
                  (refine wpAnyH_take (i := 0) (oi := { dst := some 27, op := _, type := _, pos := _, after := _, guard := _ }) (v := ?_) rfl (by kernel_rfl) (by kernel_rfl) (by kernel_rfl) (fun _ _ _ h => h) (Or.inl ⟨by kernel_rfl, (by intro W' hS'; obtain ⟨z0, z1, z2, z3, z4, z5, z6, z7, z8, z9, z10, z11⟩ := box_cells hS'.1; obtain ⟨y0, y1, y2, y3, y4, y5⟩ := tf_cells hS'.2; go_simp; try with_reducible rfl)⟩) (by assumption) ?_; (try simp only [Act.put, List.setIfInBounds_toArray, List.set_cons_zero, List.set_cons_succ]))
                  refine wpAnyH_ready (rs := [1]) (by kernel_rfl) (by simp) ?_
                  refine AllReadyH.cons (o := { dst := some 28, op := _, type := _, pos := _, after := _, guard := _ }) rfl (fun K hK => ?_) AllReadyH.nil
                  go_simp
                  refine ((HM _).out).mono ?_; rintro r w5 ⟨rfl, hb5⟩
                  have hS5 : Blk w5 eb 69 e.cells.toArray ∧ Blk w5 ab 120 #[.func (Fn.func 95) #[] #[], .func (Fn.func 96) #[] #[], .func (Fn.func 97) #[] #[], .func (Fn.func 98) #[] #[], .func (Fn.func 99) #[] #[], .func (Fn.func 100) #[] #[]] := ⟨HW.out.1.drew.ext hb5, HW.out.2.1.drew.ext hb5⟩
                  have HL5 := Lib.hid (HW.out.2.2.ext ((Below.refl _ _).drew.trans hb5))
                  have HStep := Lib.hid (by have h := move_step HL5.out HA.out hn.out e k0 h63 (by omega); unfold Ed.agg at h; exact h)
                  rw [k0] at HStep
                  refine hK.out _ _ hS5 (fun hHeld2 => ?_)
                  clear hK K hb5
                  try simp only [Act.put, List.setIfInBounds_toArray, List.set_cons_zero, List.set_cons_succ]
                  obtain ⟨A2, n2, c2', v5, hL5⟩ := HL5.out
                  obtain ⟨A3, n3, c3, rfl, hn3, _, _, _⟩ := hL5.own.form
                  have x2 : w5.cell? ⟨g, 2, none⟩ = some (.slice A3 n3 c3) := hL5.blk.cell 2
                  have hn3' : n3 = out.length := hn3.out
                  have q3 : decide ((2048 : Int) < (n3 : Int)) = false := decide_eq_false (by omega)
                  clear hL5 hn3 hn3'
                  (refine wpAnyH_take (i := 2) (oi := { dst := some 29, op := _, type := _, pos := _, after := _, guard := _ }) (v := ?_) rfl (by kernel_rfl) (by kernel_rfl) (by kernel_rfl) (fun _ _ _ h => h) (Or.inl ⟨by kernel_rfl, (by intro W' hS'; obtain ⟨z0, z1, z2, z3, z4, z5, z6, z7, z8, z9, z10, z11⟩ := box_cells hS'.1; obtain ⟨y0, y1, y2, y3, y4, y5⟩ := tf_cells hS'.2; go_simp; try with_reducible rfl)⟩) (by assumption) ?_; (try simp only [Act.put, List.setIfInBounds_toArray, List.set_cons_zero, List.set_cons_succ]))
                  (refine wpAnyH_take (i := 3) (oi := { dst := some 30, op := _, type := _, pos := _, after := _, guard := _ }) (v := ?_) rfl (by kernel_rfl) (by kernel_rfl) (by kernel_rfl) (fun _ _ _ h => h) (Or.inl ⟨by kernel_rfl, (by intro W' hS'; obtain ⟨z0, z1, z2, z3, z4, z5, z6, z7, z8, z9, z10, z11⟩ := box_cells hS'.1; obtain ⟨y0, y1, y2, y3, y4, y5⟩ := tf_cells hS'.2; go_simp; try with_reducible rfl)⟩) (by assumption) ?_; (try simp only [Act.put, List.setIfInBounds_toArray, List.set_cons_zero, List.set_cons_succ]))
                  (refine wpAnyH_take (i := 4) (oi := { dst := some 31, op := _, type := _, pos := _, after := _, guard := _ }) (v := ?_) rfl (by kernel_rfl) (by kernel_rfl) (by kernel_rfl) (fun _ _ _ h => h) (Or.inl ⟨by kernel_rfl, (by intro W' hS'; obtain ⟨z0, z1, z2, z3, z4, z5, z6, z7, z8, z9, z10, z11⟩ := box_cells hS'.1; obtain ⟨y0, y1, y2, y3, y4, y5⟩ := tf_cells hS'.2; go_simp; try with_reducible rfl)⟩) (by assumption) ?_; (try simp only [Act.put, List.setIfInBounds_toArray, List.set_cons_zero, List.set_cons_succ]))
                  (refine wpAnyH_take (i := 5) (oi := { dst := some 32, op := _, type := _, pos := _, after := _, guard := _ }) (v := ?_) rfl (by kernel_rfl) (by kernel_rfl) (by kernel_rfl) (fun _ _ _ h => h) (Or.inl ⟨by kernel_rfl, (by intro W' hS'; obtain ⟨z0, z1, z2, z3, z4, z5, z6, z7, z8, z9, z10, z11⟩ := box_cells hS'.1; obtain ⟨y0, y1, y2, y3, y4, y5⟩ := tf_cells hS'.2; go_simp; try with_reducible rfl)⟩) (by assumption) ?_; (try simp only [Act.put, List.setIfInBounds_toArray, List.set_cons_zero, List.set_cons_succ]))
                  (refine wpAnyH_take (i := 6) (oi := { dst := some 33, op := _, type := _, pos := _, after := _, guard := _ }) (v := ?_) rfl (by kernel_rfl) (by kernel_rfl) (by kernel_rfl) (fun _ _ _ h => h) (Or.inl ⟨by kernel_rfl, (by intro W' hS'; obtain ⟨z0, z1, z2, z3, z4, z5, z6, z7, z8, z9, z10, z11⟩ := box_cells hS'.1; obtain ⟨y0, y1, y2, y3, y4, y5⟩ := tf_cells hS'.2; go_simp; try with_reducible rfl)⟩) (by assumption) ?_; (try simp only [Act.put, List.setIfInBounds_toArray, List.set_cons_zero, List.set_cons_succ]))
                  refine wpAnyH_ready (rs := [7]) (by kernel_rfl) (by simp) ?_
                  refine AllReadyH.cons (o := { dst := some 34, op := _, type := _, pos := _, after := _, guard := _ }) rfl (fun K hK => ?_) AllReadyH.nil
                  refine Eq.mpr (if_pos (by kernel_rfl)) ?_
                  go_simp
                  refine hK.out _ _ hS5 (fun hHeld3 => ?_)
                  clear hK K
                  try simp only [Act.put, List.setIfInBounds_toArray, List.set_cons_zero, List.set_cons_succ]
                  (refine wpAnyH_take (i := 8) (oi := { dst := some 35, op := _, type := _, pos := _, after := _, guard := _ }) (v := ?_) rfl (by kernel_rfl) (by kernel_rfl) (by kernel_rfl) (fun _ _ _ h => h) (Or.inl ⟨by kernel_rfl, (by intro W' hS'; obtain ⟨z0, z1, z2, z3, z4, z5, z6, z7, z8, z9, z10, z11⟩ := box_cells hS'.1; obtain ⟨y0, y1, y2, y3, y4, y5⟩ := tf_cells hS'.2; go_simp; try with_reducible rfl)⟩) (by assumption) ?_; (try simp only [Act.put, List.setIfInBounds_toArray, List.set_cons_zero, List.set_cons_succ]))
                  (refine wpAnyH_take (i := 9) (oi := { dst := some 36, op := _, type := _, pos := _, after := _, guard := _ }) (v := ?_) rfl (by kernel_rfl) (by kernel_rfl) (by kernel_rfl) (fun _ _ _ h => h) (Or.inl ⟨by kernel_rfl, (by intro W' hS'; obtain ⟨z0, z1, z2, z3, z4, z5, z6, z7, z8, z9, z10, z11⟩ := box_cells hS'.1; obtain ⟨y0, y1, y2, y3, y4, y5⟩ := tf_cells hS'.2; go_simp; try with_reducible rfl)⟩) (by assumption) ?_; (try simp only [Act.put, List.setIfInBounds_toArray, List.set_cons_zero, List.set_cons_succ]))
                  (refine wpAnyH_take (i := 10) (oi := { dst := some 37, op := _, type := _, pos := _, after := _, guard := _ }) (v := ?_) rfl (by kernel_rfl) (by kernel_rfl) (by kernel_rfl) (fun _ _ _ h => h) (Or.inl ⟨by kernel_rfl, (by intro W' hS'; obtain ⟨z0, z1, z2, z3, z4, z5, z6, z7, z8, z9, z10, z11⟩ := box_cells hS'.1; obtain ⟨y0, y1, y2, y3, y4, y5⟩ := tf_cells hS'.2; go_simp; try with_reducible rfl)⟩) (by assumption) ?_; (try simp only [Act.put, List.setIfInBounds_toArray, List.set_cons_zero, List.set_cons_succ]))
                  (refine wpAnyH_take (i := 11) (oi := { dst := some 38, op := _, type := _, pos := _, after := _, guard := _ }) (v := ?_) rfl (by kernel_rfl) (by kernel_rfl) (by kernel_rfl) (fun _ _ _ h => h) (Or.inl ⟨by kernel_rfl, (by intro W' hS'; obtain ⟨z0, z1, z2, z3, z4, z5, z6, z7, z8, z9, z10, z11⟩ := box_cells hS'.1; obtain ⟨y0, y1, y2, y3, y4, y5⟩ := tf_cells hS'.2; go_simp; try with_reducible rfl)⟩) (by assumption) ?_; (try simp only [Act.put, List.setIfInBounds_toArray, List.set_cons_zero, List.set_cons_succ]))
                  (refine wpAnyH_take (i := 12) (oi := { dst := some 39, op := _, type := _, pos := _, after := _, guard := _ }) (v := ?_) rfl (by kernel_rfl) (by kernel_rfl) (by kernel_rfl) (fun _ _ _ h => h) (Or.inl ⟨by kernel_rfl, (by intro W' hS'; obtain ⟨z0, z1, z2, z3, z4, z5, z6, z7, z8, z9, z10, z11⟩ := box_cells hS'.1; obtain ⟨y0, y1, y2, y3, y4, y5⟩ := tf_cells hS'.2; go_simp; try with_reducible rfl)⟩) (by assumption) ?_; (try simp only [Act.put, List.setIfInBounds_toArray, List.set_cons_zero, List.set_cons_succ]))
                  (refine wpAnyH_take (i := 13) (oi := { dst := some 40, op := _, type := _, pos := _, after := _, guard := _ }) (v := ?_) rfl (by kernel_rfl) (by kernel_rfl) (by kernel_rfl) (fun _ _ _ h => h) (Or.inl ⟨by kernel_rfl, (by intro W' hS'; obtain ⟨z0, z1, z2, z3, z4, z5, z6, z7, z8, z9, z10, z11⟩ := box_cells hS'.1; obtain ⟨y0, y1, y2, y3, y4, y5⟩ := tf_cells hS'.2; go_simp; try with_reducible rfl)⟩) (by assumption) ?_; (try simp only [Act.put, List.setIfInBounds_toArray, List.set_cons_zero, List.set_cons_succ]))
                  (refine wpAnyH_take (i := 14) (oi := { dst := some 41, op := _, type := _, pos := _, after := _, guard := _ }) (v := ?_) rfl (by kernel_rfl) (by kernel_rfl) (by kernel_rfl) (fun _ _ _ h => h) (Or.inl ⟨by kernel_rfl, (by intro W' hS'; obtain ⟨z0, z1, z2, z3, z4, z5, z6, z7, z8, z9, z10, z11⟩ := box_cells hS'.1; obtain ⟨y0, y1, y2, y3, y4, y5⟩ := tf_cells hS'.2; go_simp; try with_reducible rfl)⟩) (by assumption) ?_; (try simp only [Act.put, List.setIfInBounds_toArray, List.set_cons_zero, List.set_cons_succ]))
                  (refine wpAnyH_take (i := 15) (oi := { dst := some 42, op := _, type := _, pos := _, after := _, guard := _ }) (v := ?_) rfl (by kernel_rfl) (by kernel_rfl) (by kernel_rfl) (fun _ _ _ h => h) (Or.inl ⟨by kernel_rfl, (by intro W' hS'; obtain ⟨z0, z1, z2, z3, z4, z5, z6, z7, z8, z9, z10, z11⟩ := box_cells hS'.1; obtain ⟨y0, y1, y2, y3, y4, y5⟩ := tf_cells hS'.2; go_simp; try with_reducible rfl)⟩) (by assumption) ?_; (try simp only [Act.put, List.setIfInBounds_toArray, List.set_cons_zero, List.set_cons_succ]))
                  (refine wpAnyH_take (i := 16) (oi := { dst := some 43, op := _, type := _, pos := _, after := _, guard := _ }) (v := ?_) rfl (by kernel_rfl) (by kernel_rfl) (by kernel_rfl) (fun _ _ _ h => h) (Or.inl ⟨by kernel_rfl, (by intro W' hS'; obtain ⟨z0, z1, z2, z3, z4, z5, z6, z7, z8, z9, z10, z11⟩ := box_cells hS'.1; obtain ⟨y0, y1, y2, y3, y4, y5⟩ := tf_cells hS'.2; go_simp; try with_reducible rfl)⟩) (by assumption) ?_; (try simp only [Act.put, List.setIfInBounds_toArray, List.set_cons_zero, List.set_cons_succ]))
                  (refine wpAnyH_take (i := 17) (oi := { dst := some 44, op := _, type := _, pos := _, after := _, guard := _ }) (v := ?_) rfl (by kernel_rfl) (by kernel_rfl) (by kernel_rfl) (fun _ _ _ h => h) (Or.inl ⟨by kernel_rfl, (by intro W' hS'; obtain ⟨z0, z1, z2, z3, z4, z5, z6, z7, z8, z9, z10, z11⟩ := box_cells hS'.1; obtain ⟨y0, y1, y2, y3, y4, y5⟩ := tf_cells hS'.2; go_simp; try with_reducible rfl)⟩) (by assumption) ?_; (try simp only [Act.put, List.setIfInBounds_toArray, List.set_cons_zero, List.set_cons_succ]))
                  refine wpAnyH_ready (rs := [18]) (by kernel_rfl) (by simp) ?_
                  refine AllReadyH.cons (o := { dst := some 45, op := _, type := _, pos := _, after := _, guard := _ }) rfl (fun K hK => ?_) AllReadyH.nil
                  refine Eq.mpr (if_pos (by kernel_rfl)) ?_
                  go_simp
                  ((with_reducible refine (HStep.out).mono ?_); rintro r w6 ⟨hr6, hk6, hb6, hl6⟩)
                  rw [hok.out] at hr6
                  subst hr6
                  have hS6 : Blk w6 eb 69 e.cells.toArray ∧ Blk w6 ab 120 #[.func (Fn.func 95) #[] #[], .func (Fn.func 96) #[] #[], .func (Fn.func 97) #[] #[], .func (Fn.func 98) #[] #[], .func (Fn.func 99) #[] #[], .func (Fn.func 100) #[] #[]] := ⟨hk6 _ _ _ hS5.1 (by decide) (by decide), hk6 _ _ _ hS5.2 (by decide) (by decide)⟩
                  have HL6 := Lib.hid (And.intro hb6 hl6)
                  refine hK.out _ _ hS6 (fun hHeld4 => ?_)
                  clear hK K hk6 hb6 hl6
                  try simp only [Act.put, List.setIfInBounds_toArray, List.set_cons_zero, List.set_cons_succ]
                  (refine wpAnyH_take (i := 19) (oi := { dst := some 46, op := _, type := _, pos := _, after := _, guard := _ }) (v := ?_) rfl (by kernel_rfl) (by kernel_rfl) (by kernel_rfl) (fun _ _ _ h => h) (Or.inl ⟨by kernel_rfl, (by intro W' hS'; obtain ⟨z0, z1, z2, z3, z4, z5, z6, z7, z8, z9, z10, z11⟩ := box_cells hS'.1; obtain ⟨y0, y1, y2, y3, y4, y5⟩ := tf_cells hS'.2; go_simp; try with_reducible rfl)⟩) (by assumption) ?_; (try simp only [Act.put, List.setIfInBounds_toArray, List.set_cons_zero, List.set_cons_succ]))
                  (refine wpAnyH_take (i := 20) (oi := { dst := some 47, op := _, type := _, pos := _, after := _, guard := _ }) (v := ?_) rfl (by kernel_rfl) (by kernel_rfl) (by kernel_rfl) (fun _ _ _ h => h) (Or.inl ⟨by kernel_rfl, (by intro W' hS'; obtain ⟨z0, z1, z2, z3, z4, z5, z6, z7, z8, z9, z10, z11⟩ := box_cells hS'.1; obtain ⟨y0, y1, y2, y3, y4, y5⟩ := tf_cells hS'.2; go_simp; try with_reducible rfl)⟩) (by assumption) ?_; (try simp only [Act.put, List.setIfInBounds_toArray, List.set_cons_zero, List.set_cons_succ]))
                  refine wpAnyH_done (by kernel_rfl) ?_ _
                  have HR := Lib.hid (show R10 w _ g A n cap l ab k out e (!ok) from ⟨HL6.out.1, hS6.2, fun h => .inr (.inr (by have := hok.out; cases hs : stepE l e k out with | none => rfl | some s => rw [hs] at this; simp at this; simp [← this] at h)), fun h => ⟨HMy.out, by omega, by have := hok.out; cases hs : stepE l e k out with | none => rw [hs] at this; simp at this; simp [← this] at h | some s => exact ⟨s.1, s.2, rfl, HL6.out.2 s.1 s.2 hs⟩⟩⟩)
                  go_wp2_with fail
                  go_meet
                  exact ⟨_, rfl, HR.out⟩
                · have HM := fun W => Lib.hid (by have h := EdC.may_any e W HWe.out; rw [HMy.out] at h; unfold Ed.agg at h; exact h)
                  simp only [k0] at HM
                  refine wp_region_held_drew (S := fun w' => Blk w' eb 69 e.cells.toArray ∧ Blk w' ab 120 #[.func (Fn.func 95) #[] #[], .func (Fn.func 96) #[] #[], .func (Fn.func 97) #[] #[], .func (Fn.func 98) #[] #[], .func (Fn.func 99) #[] #[], .func (Fn.func 100) #[] #[]]) (by kernel_rfl) (show _ from ⟨HW.out.1.drew, HW.out.2.1.drew⟩) (fun hHeld => ?_)
                  try simp only [Act.put, List.setIfInBounds_toArray, List.set_cons_zero, List.set_cons_succ]
                  (refine wpAnyH_take (i := 0) (oi := { dst := some 27, op := _, type := _, pos := _, after := _, guard := _ }) (v := ?_) rfl (by kernel_rfl) (by kernel_rfl) (by kernel_rfl) (fun _ _ _ h => h) (Or.inl ⟨by kernel_rfl, (by intro W' hS'; obtain ⟨z0, z1, z2, z3, z4, z5, z6, z7, z8, z9, z10, z11⟩ := box_cells hS'.1; obtain ⟨y0, y1, y2, y3, y4, y5⟩ := tf_cells hS'.2; go_simp; try with_reducible rfl)⟩) (by assumption) ?_; (try simp only [Act.put, List.setIfInBounds_toArray, List.set_cons_zero, List.set_cons_succ]))
                  refine wpAnyH_ready (rs := [1]) (by kernel_rfl) (by simp) ?_
                  refine AllReadyH.cons (o := { dst := some 28, op := _, type := _, pos := _, after := _, guard := _ }) rfl (fun K hK => ?_) AllReadyH.nil
                  go_simp
                  refine ((HM _).out).mono ?_; rintro r w5 ⟨rfl, hb5⟩
                  have hS5 : Blk w5 eb 69 e.cells.toArray ∧ Blk w5 ab 120 #[.func (Fn.func 95) #[] #[], .func (Fn.func 96) #[] #[], .func (Fn.func 97) #[] #[], .func (Fn.func 98) #[] #[], .func (Fn.func 99) #[] #[], .func (Fn.func 100) #[] #[]] := ⟨HW.out.1.drew.ext hb5, HW.out.2.1.drew.ext hb5⟩
                  have HL5 := Lib.hid (HW.out.2.2.ext ((Below.refl _ _).drew.trans hb5))
                  have HStep := Lib.hid (by have h := geo_step HL5.out e k0 h63 (by omega); unfold Ed.agg at h; exact h)
                  rw [k0] at HStep
                  refine hK.out _ _ hS5 (fun hHeld2 => ?_)
                  clear hK K hb5
                  try simp only [Act.put, List.setIfInBounds_toArray, List.set_cons_zero, List.set_cons_succ]
                  obtain ⟨A2, n2, c2', v5, hL5⟩ := HL5.out
                  obtain ⟨A3, n3, c3, rfl, hn3, _, _, _⟩ := hL5.own.form
                  have x2 : w5.cell? ⟨g, 2, none⟩ = some (.slice A3 n3 c3) := hL5.blk.cell 2
                  have hn3' : n3 = out.length := hn3.out
                  have q3 : decide ((2048 : Int) < (n3 : Int)) = false := decide_eq_false (by omega)
                  clear hL5 hn3 hn3'
                  (refine wpAnyH_take (i := 2) (oi := { dst := some 29, op := _, type := _, pos := _, after := _, guard := _ }) (v := ?_) rfl (by kernel_rfl) (by kernel_rfl) (by kernel_rfl) (fun _ _ _ h => h) (Or.inl ⟨by kernel_rfl, (by intro W' hS'; obtain ⟨z0, z1, z2, z3, z4, z5, z6, z7, z8, z9, z10, z11⟩ := box_cells hS'.1; obtain ⟨y0, y1, y2, y3, y4, y5⟩ := tf_cells hS'.2; go_simp; try with_reducible rfl)⟩) (by assumption) ?_; (try simp only [Act.put, List.setIfInBounds_toArray, List.set_cons_zero, List.set_cons_succ]))
                  (refine wpAnyH_take (i := 3) (oi := { dst := some 30, op := _, type := _, pos := _, after := _, guard := _ }) (v := ?_) rfl (by kernel_rfl) (by kernel_rfl) (by kernel_rfl) (fun _ _ _ h => h) (Or.inl ⟨by kernel_rfl, (by intro W' hS'; obtain ⟨z0, z1, z2, z3, z4, z5, z6, z7, z8, z9, z10, z11⟩ := box_cells hS'.1; obtain ⟨y0, y1, y2, y3, y4, y5⟩ := tf_cells hS'.2; go_simp; try with_reducible rfl)⟩) (by assumption) ?_; (try simp only [Act.put, List.setIfInBounds_toArray, List.set_cons_zero, List.set_cons_succ]))
                  (refine wpAnyH_take (i := 4) (oi := { dst := some 31, op := _, type := _, pos := _, after := _, guard := _ }) (v := ?_) rfl (by kernel_rfl) (by kernel_rfl) (by kernel_rfl) (fun _ _ _ h => h) (Or.inl ⟨by kernel_rfl, (by intro W' hS'; obtain ⟨z0, z1, z2, z3, z4, z5, z6, z7, z8, z9, z10, z11⟩ := box_cells hS'.1; obtain ⟨y0, y1, y2, y3, y4, y5⟩ := tf_cells hS'.2; go_simp; try with_reducible rfl)⟩) (by assumption) ?_; (try simp only [Act.put, List.setIfInBounds_toArray, List.set_cons_zero, List.set_cons_succ]))
                  (refine wpAnyH_take (i := 5) (oi := { dst := some 32, op := _, type := _, pos := _, after := _, guard := _ }) (v := ?_) rfl (by kernel_rfl) (by kernel_rfl) (by kernel_rfl) (fun _ _ _ h => h) (Or.inl ⟨by kernel_rfl, (by intro W' hS'; obtain ⟨z0, z1, z2, z3, z4, z5, z6, z7, z8, z9, z10, z11⟩ := box_cells hS'.1; obtain ⟨y0, y1, y2, y3, y4, y5⟩ := tf_cells hS'.2; go_simp; try with_reducible rfl)⟩) (by assumption) ?_; (try simp only [Act.put, List.setIfInBounds_toArray, List.set_cons_zero, List.set_cons_succ]))
                  (refine wpAnyH_take (i := 6) (oi := { dst := some 33, op := _, type := _, pos := _, after := _, guard := _ }) (v := ?_) rfl (by kernel_rfl) (by kernel_rfl) (by kernel_rfl) (fun _ _ _ h => h) (Or.inl ⟨by kernel_rfl, (by intro W' hS'; obtain ⟨z0, z1, z2, z3, z4, z5, z6, z7, z8, z9, z10, z11⟩ := box_cells hS'.1; obtain ⟨y0, y1, y2, y3, y4, y5⟩ := tf_cells hS'.2; go_simp; try with_reducible rfl)⟩) (by assumption) ?_; (try simp only [Act.put, List.setIfInBounds_toArray, List.set_cons_zero, List.set_cons_succ]))
                  refine wpAnyH_ready (rs := [7]) (by kernel_rfl) (by simp) ?_
                  refine AllReadyH.cons (o := { dst := some 34, op := _, type := _, pos := _, after := _, guard := _ }) rfl (fun K hK => ?_) AllReadyH.nil
                  refine Eq.mpr (if_pos (by kernel_rfl)) ?_
                  go_simp
                  refine hK.out _ _ hS5 (fun hHeld3 => ?_)
                  clear hK K
                  try simp only [Act.put, List.setIfInBounds_toArray, List.set_cons_zero, List.set_cons_succ]
                  (refine wpAnyH_take (i := 8) (oi := { dst := some 35, op := _, type := _, pos := _, after := _, guard := _ }) (v := ?_) rfl (by kernel_rfl) (by kernel_rfl) (by kernel_rfl) (fun _ _ _ h => h) (Or.inl ⟨by kernel_rfl, (by intro W' hS'; obtain ⟨z0, z1, z2, z3, z4, z5, z6, z7, z8, z9, z10, z11⟩ := box_cells hS'.1; obtain ⟨y0, y1, y2, y3, y4, y5⟩ := tf_cells hS'.2; go_simp; try with_reducible rfl)⟩) (by assumption) ?_; (try simp only [Act.put, List.setIfInBounds_toArray, List.set_cons_zero, List.set_cons_succ]))
                  (refine wpAnyH_take (i := 9) (oi := { dst := some 36, op := _, type := _, pos := _, after := _, guard := _ }) (v := ?_) rfl (by kernel_rfl) (by kernel_rfl) (by kernel_rfl) (fun _ _ _ h => h) (Or.inl ⟨by kernel_rfl, (by intro W' hS'; obtain ⟨z0, z1, z2, z3, z4, z5, z6, z7, z8, z9, z10, z11⟩ := box_cells hS'.1; obtain ⟨y0, y1, y2, y3, y4, y5⟩ := tf_cells hS'.2; go_simp; try with_reducible rfl)⟩) (by assumption) ?_; (try simp only [Act.put, List.setIfInBounds_toArray, List.set_cons_zero, List.set_cons_succ]))
                  (refine wpAnyH_take (i := 10) (oi := { dst := some 37, op := _, type := _, pos := _, after := _, guard := _ }) (v := ?_) rfl (by kernel_rfl) (by kernel_rfl) (by kernel_rfl) (fun _ _ _ h => h) (Or.inl ⟨by kernel_rfl, (by intro W' hS'; obtain ⟨z0, z1, z2, z3, z4, z5, z6, z7, z8, z9, z10, z11⟩ := box_cells hS'.1; obtain ⟨y0, y1, y2, y3, y4, y5⟩ := tf_cells hS'.2; go_simp; try with_reducible rfl)⟩) (by assumption) ?_; (try simp only [Act.put, List.setIfInBounds_toArray, List.set_cons_zero, List.set_cons_succ]))
                  (refine wpAnyH_take (i := 11) (oi := { dst := some 38, op := _, type := _, pos := _, after := _, guard := _ }) (v := ?_) rfl (by kernel_rfl) (by kernel_rfl) (by kernel_rfl) (fun _ _ _ h => h) (Or.inl ⟨by kernel_rfl, (by intro W' hS'; obtain ⟨z0, z1, z2, z3, z4, z5, z6, z7, z8, z9, z10, z11⟩ := box_cells hS'.1; obtain ⟨y0, y1, y2, y3, y4, y5⟩ := tf_cells hS'.2; go_simp; try with_reducible rfl)⟩) (by assumption) ?_; (try simp only [Act.put, List.setIfInBounds_toArray, List.set_cons_zero, List.set_cons_succ]))
                  (refine wpAnyH_take (i := 12) (oi := { dst := some 39, op := _, type := _, pos := _, after := _, guard := _ }) (v := ?_) rfl (by kernel_rfl) (by kernel_rfl) (by kernel_rfl) (fun _ _ _ h => h) (Or.inl ⟨by kernel_rfl, (by intro W' hS'; obtain ⟨z0, z1, z2, z3, z4, z5, z6, z7, z8, z9, z10, z11⟩ := box_cells hS'.1; obtain ⟨y0, y1, y2, y3, y4, y5⟩ := tf_cells hS'.2; go_simp; try with_reducible rfl)⟩) (by assumption) ?_; (try simp only [Act.put, List.setIfInBounds_toArray, List.set_cons_zero, List.set_cons_succ]))
                  (refine wpAnyH_take (i := 13) (oi := { dst := some 40, op := _, type := _, pos := _, after := _, guard := _ }) (v := ?_) rfl (by kernel_rfl) (by kernel_rfl) (by kernel_rfl) (fun _ _ _ h => h) (Or.inl ⟨by kernel_rfl, (by intro W' hS'; obtain ⟨z0, z1, z2, z3, z4, z5, z6, z7, z8, z9, z10, z11⟩ := box_cells hS'.1; obtain ⟨y0, y1, y2, y3, y4, y5⟩ := tf_cells hS'.2; go_simp; try with_reducible rfl)⟩) (by assumption) ?_; (try simp only [Act.put, List.setIfInBounds_toArray, List.set_cons_zero, List.set_cons_succ]))
                  (refine wpAnyH_take (i := 14) (oi := { dst := some 41, op := _, type := _, pos := _, after := _, guard := _ }) (v := ?_) rfl (by kernel_rfl) (by kernel_rfl) (by kernel_rfl) (fun _ _ _ h => h) (Or.inl ⟨by kernel_rfl, (by intro W' hS'; obtain ⟨z0, z1, z2, z3, z4, z5, z6, z7, z8, z9, z10, z11⟩ := box_cells hS'.1; obtain ⟨y0, y1, y2, y3, y4, y5⟩ := tf_cells hS'.2; go_simp; try with_reducible rfl)⟩) (by assumption) ?_; (try simp only [Act.put, List.setIfInBounds_toArray, List.set_cons_zero, List.set_cons_succ]))
                  (refine wpAnyH_take (i := 15) (oi := { dst := some 42, op := _, type := _, pos := _, after := _, guard := _ }) (v := ?_) rfl (by kernel_rfl) (by kernel_rfl) (by kernel_rfl) (fun _ _ _ h => h) (Or.inl ⟨by kernel_rfl, (by intro W' hS'; obtain ⟨z0, z1, z2, z3, z4, z5, z6, z7, z8, z9, z10, z11⟩ := box_cells hS'.1; obtain ⟨y0, y1, y2, y3, y4, y5⟩ := tf_cells hS'.2; go_simp; try with_reducible rfl)⟩) (by assumption) ?_; (try simp only [Act.put, List.setIfInBounds_toArray, List.set_cons_zero, List.set_cons_succ]))
                  (refine wpAnyH_take (i := 16) (oi := { dst := some 43, op := _, type := _, pos := _, after := _, guard := _ }) (v := ?_) rfl (by kernel_rfl) (by kernel_rfl) (by kernel_rfl) (fun _ _ _ h => h) (Or.inl ⟨by kernel_rfl, (by intro W' hS'; obtain ⟨z0, z1, z2, z3, z4, z5, z6, z7, z8, z9, z10, z11⟩ := box_cells hS'.1; obtain ⟨y0, y1, y2, y3, y4, y5⟩ := tf_cells hS'.2; go_simp; try with_reducible rfl)⟩) (by assumption) ?_; (try simp only [Act.put, List.setIfInBounds_toArray, List.set_cons_zero, List.set_cons_succ]))
                  (refine wpAnyH_take (i := 17) (oi := { dst := some 44, op := _, type := _, pos := _, after := _, guard := _ }) (v := ?_) rfl (by kernel_rfl) (by kernel_rfl) (by kernel_rfl) (fun _ _ _ h => h) (Or.inl ⟨by kernel_rfl, (by intro W' hS'; obtain ⟨z0, z1, z2, z3, z4, z5, z6, z7, z8, z9, z10, z11⟩ := box_cells hS'.1; obtain ⟨y0, y1, y2, y3, y4, y5⟩ := tf_cells hS'.2; go_simp; try with_reducible rfl)⟩) (by assumption) ?_; (try simp only [Act.put, List.setIfInBounds_toArray, List.set_cons_zero, List.set_cons_succ]))
                  refine wpAnyH_ready (rs := [18]) (by kernel_rfl) (by simp) ?_
                  refine AllReadyH.cons (o := { dst := some 45, op := _, type := _, pos := _, after := _, guard := _ }) rfl (fun K hK => ?_) AllReadyH.nil
                  refine Eq.mpr (if_pos (by kernel_rfl)) ?_
                  go_simp
                  ((with_reducible refine (HStep.out).mono ?_); rintro r w6 ⟨hr6, hk6, hb6, hl6⟩)
                  rw [hok.out] at hr6
                  subst hr6
                  have hS6 : Blk w6 eb 69 e.cells.toArray ∧ Blk w6 ab 120 #[.func (Fn.func 95) #[] #[], .func (Fn.func 96) #[] #[], .func (Fn.func 97) #[] #[], .func (Fn.func 98) #[] #[], .func (Fn.func 99) #[] #[], .func (Fn.func 100) #[] #[]] := ⟨hk6 _ _ _ hS5.1 (by decide) (by decide), hk6 _ _ _ hS5.2 (by decide) (by decide)⟩
                  have HL6 := Lib.hid (And.intro hb6 hl6)
                  refine hK.out _ _ hS6 (fun hHeld4 => ?_)
                  clear hK K hk6 hb6 hl6
                  try simp only [Act.put, List.setIfInBounds_toArray, List.set_cons_zero, List.set_cons_succ]
                  (refine wpAnyH_take (i := 19) (oi := { dst := some 46, op := _, type := _, pos := _, after := _, guard := _ }) (v := ?_) rfl (by kernel_rfl) (by kernel_rfl) (by kernel_rfl) (fun _ _ _ h => h) (Or.inl ⟨by kernel_rfl, (by intro W' hS'; obtain ⟨z0, z1, z2, z3, z4, z5, z6, z7, z8, z9, z10, z11⟩ := box_cells hS'.1; obtain ⟨y0, y1, y2, y3, y4, y5⟩ := tf_cells hS'.2; go_simp; try with_reducible rfl)⟩) (by assumption) ?_; (try simp only [Act.put, List.setIfInBounds_toArray, List.set_cons_zero, List.set_cons_succ]))
                  (refine wpAnyH_take (i := 20) (oi := { dst := some 47, op := _, type := _, pos := _, after := _, guard := _ }) (v := ?_) rfl (by kernel_rfl) (by kernel_rfl) (by kernel_rfl) (fun _ _ _ h => h) (Or.inl ⟨by kernel_rfl, (by intro W' hS'; obtain ⟨z0, z1, z2, z3, z4, z5, z6, z7, z8, z9, z10, z11⟩ := box_cells hS'.1; obtain ⟨y0, y1, y2, y3, y4, y5⟩ := tf_cells hS'.2; go_simp; try with_reducible rfl)⟩) (by assumption) ?_; (try simp only [Act.put, List.setIfInBounds_toArray, List.set_cons_zero, List.set_cons_succ]))
                  refine wpAnyH_done (by kernel_rfl) ?_ _
                  have HR := Lib.hid (show R10 w _ g A n cap l ab k out e (!ok) from ⟨HL6.out.1, hS6.2, fun h => .inr (.inr (by have := hok.out; cases hs : stepE l e k out with | none => rfl | some s => rw [hs] at this; simp at this; simp [← this] at h)), fun h => ⟨HMy.out, by omega, by have := hok.out; cases hs : stepE l e k out with | none => rw [hs] at this; simp at this; simp [← this] at h | some s => exact ⟨s.1, s.2, rfl, HL6.out.2 s.1 s.2 hs⟩⟩⟩)
                  go_wp2_with fail
                  go_meet
                  exact ⟨_, rfl, HR.out⟩
                · have HM := fun W => Lib.hid (by have h := EdC.may_any e W HWe.out; rw [HMy.out] at h; unfold Ed.agg at h; exact h)
                  simp only [k0] at HM
                  refine wp_region_held_drew (S := fun w' => Blk w' eb 69 e.cells.toArray ∧ Blk w' ab 120 #[.func (Fn.func 95) #[] #[], .func (Fn.func 96) #[] #[], .func (Fn.func 97) #[] #[], .func (Fn.func 98) #[] #[], .func (Fn.func 99) #[] #[], .func (Fn.func 100) #[] #[]]) (by kernel_rfl) (show _ from ⟨HW.out.1.drew, HW.out.2.1.drew⟩) (fun hHeld => ?_)
                  try simp only [Act.put, List.setIfInBounds_toArray, List.set_cons_zero, List.set_cons_succ]
                  (refine wpAnyH_take (i := 0) (oi := { dst := some 27, op := _, type := _, pos := _, after := _, guard := _ }) (v := ?_) rfl (by kernel_rfl) (by kernel_rfl) (by kernel_rfl) (fun _ _ _ h => h) (Or.inl ⟨by kernel_rfl, (by intro W' hS'; obtain ⟨z0, z1, z2, z3, z4, z5, z6, z7, z8, z9, z10, z11⟩ := box_cells hS'.1; obtain ⟨y0, y1, y2, y3, y4, y5⟩ := tf_cells hS'.2; go_simp; try with_reducible rfl)⟩) (by assumption) ?_; (try simp only [Act.put, List.setIfInBounds_toArray, List.set_cons_zero, List.set_cons_succ]))
                  refine wpAnyH_ready (rs := [1]) (by kernel_rfl) (by simp) ?_
                  refine AllReadyH.cons (o := { dst := some 28, op := _, type := _, pos := _, after := _, guard := _ }) rfl (fun K hK => ?_) AllReadyH.nil
                  go_simp
                  refine ((HM _).out).mono ?_; rintro r w5 ⟨rfl, hb5⟩
                  have hS5 : Blk w5 eb 69 e.cells.toArray ∧ Blk w5 ab 120 #[.func (Fn.func 95) #[] #[], .func (Fn.func 96) #[] #[], .func (Fn.func 97) #[] #[], .func (Fn.func 98) #[] #[], .func (Fn.func 99) #[] #[], .func (Fn.func 100) #[] #[]] := ⟨HW.out.1.drew.ext hb5, HW.out.2.1.drew.ext hb5⟩
                  have HL5 := Lib.hid (HW.out.2.2.ext ((Below.refl _ _).drew.trans hb5))
                  have HStep := Lib.hid (by have h := txt_step HL5.out e k0 h63 (by omega); unfold Ed.agg at h; exact h)
                  rw [k0] at HStep
                  refine hK.out _ _ hS5 (fun hHeld2 => ?_)
                  clear hK K hb5
                  try simp only [Act.put, List.setIfInBounds_toArray, List.set_cons_zero, List.set_cons_succ]
                  obtain ⟨A2, n2, c2', v5, hL5⟩ := HL5.out
                  obtain ⟨A3, n3, c3, rfl, hn3, _, _, _⟩ := hL5.own.form
                  have x2 : w5.cell? ⟨g, 2, none⟩ = some (.slice A3 n3 c3) := hL5.blk.cell 2
                  have hn3' : n3 = out.length := hn3.out
                  have q3 : decide ((2048 : Int) < (n3 : Int)) = false := decide_eq_false (by omega)
                  clear hL5 hn3 hn3'
                  (refine wpAnyH_take (i := 2) (oi := { dst := some 29, op := _, type := _, pos := _, after := _, guard := _ }) (v := ?_) rfl (by kernel_rfl) (by kernel_rfl) (by kernel_rfl) (fun _ _ _ h => h) (Or.inl ⟨by kernel_rfl, (by intro W' hS'; obtain ⟨z0, z1, z2, z3, z4, z5, z6, z7, z8, z9, z10, z11⟩ := box_cells hS'.1; obtain ⟨y0, y1, y2, y3, y4, y5⟩ := tf_cells hS'.2; go_simp; try with_reducible rfl)⟩) (by assumption) ?_; (try simp only [Act.put, List.setIfInBounds_toArray, List.set_cons_zero, List.set_cons_succ]))
                  (refine wpAnyH_take (i := 3) (oi := { dst := some 30, op := _, type := _, pos := _, after := _, guard := _ }) (v := ?_) rfl (by kernel_rfl) (by kernel_rfl) (by kernel_rfl) (fun _ _ _ h => h) (Or.inl ⟨by kernel_rfl, (by intro W' hS'; obtain ⟨z0, z1, z2, z3, z4, z5, z6, z7, z8, z9, z10, z11⟩ := box_cells hS'.1; obtain ⟨y0, y1, y2, y3, y4, y5⟩ := tf_cells hS'.2; go_simp; try with_reducible rfl)⟩) (by assumption) ?_; (try simp only [Act.put, List.setIfInBounds_toArray, List.set_cons_zero, List.set_cons_succ]))
                  (refine wpAnyH_take (i := 4) (oi := { dst := some 31, op := _, type := _, pos := _, after := _, guard := _ }) (v := ?_) rfl (by kernel_rfl) (by kernel_rfl) (by kernel_rfl) (fun _ _ _ h => h) (Or.inl ⟨by kernel_rfl, (by intro W' hS'; obtain ⟨z0, z1, z2, z3, z4, z5, z6, z7, z8, z9, z10, z11⟩ := box_cells hS'.1; obtain ⟨y0, y1, y2, y3, y4, y5⟩ := tf_cells hS'.2; go_simp; try with_reducible rfl)⟩) (by assumption) ?_; (try simp only [Act.put, List.setIfInBounds_toArray, List.set_cons_zero, List.set_cons_succ]))
                  (refine wpAnyH_take (i := 5) (oi := { dst := some 32, op := _, type := _, pos := _, after := _, guard := _ }) (v := ?_) rfl (by kernel_rfl) (by kernel_rfl) (by kernel_rfl) (fun _ _ _ h => h) (Or.inl ⟨by kernel_rfl, (by intro W' hS'; obtain ⟨z0, z1, z2, z3, z4, z5, z6, z7, z8, z9, z10, z11⟩ := box_cells hS'.1; obtain ⟨y0, y1, y2, y3, y4, y5⟩ := tf_cells hS'.2; go_simp; try with_reducible rfl)⟩) (by assumption) ?_; (try simp only [Act.put, List.setIfInBounds_toArray, List.set_cons_zero, List.set_cons_succ]))
                  (refine wpAnyH_take (i := 6) (oi := { dst := some 33, op := _, type := _, pos := _, after := _, guard := _ }) (v := ?_) rfl (by kernel_rfl) (by kernel_rfl) (by kernel_rfl) (fun _ _ _ h => h) (Or.inl ⟨by kernel_rfl, (by intro W' hS'; obtain ⟨z0, z1, z2, z3, z4, z5, z6, z7, z8, z9, z10, z11⟩ := box_cells hS'.1; obtain ⟨y0, y1, y2, y3, y4, y5⟩ := tf_cells hS'.2; go_simp; try with_reducible rfl)⟩) (by assumption) ?_; (try simp only [Act.put, List.setIfInBounds_toArray, List.set_cons_zero, List.set_cons_succ]))
                  refine wpAnyH_ready (rs := [7]) (by kernel_rfl) (by simp) ?_
                  refine AllReadyH.cons (o := { dst := some 34, op := _, type := _, pos := _, after := _, guard := _ }) rfl (fun K hK => ?_) AllReadyH.nil
                  refine Eq.mpr (if_pos (by kernel_rfl)) ?_
                  go_simp
                  refine hK.out _ _ hS5 (fun hHeld3 => ?_)
                  clear hK K
                  try simp only [Act.put, List.setIfInBounds_toArray, List.set_cons_zero, List.set_cons_succ]
                  (refine wpAnyH_take (i := 8) (oi := { dst := some 35, op := _, type := _, pos := _, after := _, guard := _ }) (v := ?_) rfl (by kernel_rfl) (by kernel_rfl) (by kernel_rfl) (fun _ _ _ h => h) (Or.inl ⟨by kernel_rfl, (by intro W' hS'; obtain ⟨z0, z1, z2, z3, z4, z5, z6, z7, z8, z9, z10, z11⟩ := box_cells hS'.1; obtain ⟨y0, y1, y2, y3, y4, y5⟩ := tf_cells hS'.2; go_simp; try with_reducible rfl)⟩) (by assumption) ?_; (try simp only [Act.put, List.setIfInBounds_toArray, List.set_cons_zero, List.set_cons_succ]))
                  (refine wpAnyH_take (i := 9) (oi := { dst := some 36, op := _, type := _, pos := _, after := _, guard := _ }) (v := ?_) rfl (by kernel_rfl) (by kernel_rfl) (by kernel_rfl) (fun _ _ _ h => h) (Or.inl ⟨by kernel_rfl, (by intro W' hS'; obtain ⟨z0, z1, z2, z3, z4, z5, z6, z7, z8, z9, z10, z11⟩ := box_cells hS'.1; obtain ⟨y0, y1, y2, y3, y4, y5⟩ := tf_cells hS'.2; go_simp; try with_reducible rfl)⟩) (by assumption) ?_; (try simp only [Act.put, List.setIfInBounds_toArray, List.set_cons_zero, List.set_cons_succ]))
                  (refine wpAnyH_take (i := 10) (oi := { dst := some 37, op := _, type := _, pos := _, after := _, guard := _ }) (v := ?_) rfl (by kernel_rfl) (by kernel_rfl) (by kernel_rfl) (fun _ _ _ h => h) (Or.inl ⟨by kernel_rfl, (by intro W' hS'; obtain ⟨z0, z1, z2, z3, z4, z5, z6, z7, z8, z9, z10, z11⟩ := box_cells hS'.1; obtain ⟨y0, y1, y2, y3, y4, y5⟩ := tf_cells hS'.2; go_simp; try with_reducible rfl)⟩) (by assumption) ?_; (try simp only [Act.put, List.setIfInBounds_toArray, List.set_cons_zero, List.set_cons_succ]))
                  (refine wpAnyH_take (i := 11) (oi := { dst := some 38, op := _, type := _, pos := _, after := _, guard := _ }) (v := ?_) rfl (by kernel_rfl) (by kernel_rfl) (by kernel_rfl) (fun _ _ _ h => h) (Or.inl ⟨by kernel_rfl, (by intro W' hS'; obtain ⟨z0, z1, z2, z3, z4, z5, z6, z7, z8, z9, z10, z11⟩ := box_cells hS'.1; obtain ⟨y0, y1, y2, y3, y4, y5⟩ := tf_cells hS'.2; go_simp; try with_reducible rfl)⟩) (by assumption) ?_; (try simp only [Act.put, List.setIfInBounds_toArray, List.set_cons_zero, List.set_cons_succ]))
                  (refine wpAnyH_take (i := 12) (oi := { dst := some 39, op := _, type := _, pos := _, after := _, guard := _ }) (v := ?_) rfl (by kernel_rfl) (by kernel_rfl) (by kernel_rfl) (fun _ _ _ h => h) (Or.inl ⟨by kernel_rfl, (by intro W' hS'; obtain ⟨z0, z1, z2, z3, z4, z5, z6, z7, z8, z9, z10, z11⟩ := box_cells hS'.1; obtain ⟨y0, y1, y2, y3, y4, y5⟩ := tf_cells hS'.2; go_simp; try with_reducible rfl)⟩) (by assumption) ?_; (try simp only [Act.put, List.setIfInBounds_toArray, List.set_cons_zero, List.set_cons_succ]))
                  (refine wpAnyH_take (i := 13) (oi := { dst := some 40, op := _, type := _, pos := _, after := _, guard := _ }) (v := ?_) rfl (by kernel_rfl) (by kernel_rfl) (by kernel_rfl) (fun _ _ _ h => h) (Or.inl ⟨by kernel_rfl, (by intro W' hS'; obtain ⟨z0, z1, z2, z3, z4, z5, z6, z7, z8, z9, z10, z11⟩ := box_cells hS'.1; obtain ⟨y0, y1, y2, y3, y4, y5⟩ := tf_cells hS'.2; go_simp; try with_reducible rfl)⟩) (by assumption) ?_; (try simp only [Act.put, List.setIfInBounds_toArray, List.set_cons_zero, List.set_cons_succ]))
                  (refine wpAnyH_take (i := 14) (oi := { dst := some 41, op := _, type := _, pos := _, after := _, guard := _ }) (v := ?_) rfl (by kernel_rfl) (by kernel_rfl) (by kernel_rfl) (fun _ _ _ h => h) (Or.inl ⟨by kernel_rfl, (by intro W' hS'; obtain ⟨z0, z1, z2, z3, z4, z5, z6, z7, z8, z9, z10, z11⟩ := box_cells hS'.1; obtain ⟨y0, y1, y2, y3, y4, y5⟩ := tf_cells hS'.2; go_simp; try with_reducible rfl)⟩) (by assumption) ?_; (try simp only [Act.put, List.setIfInBounds_toArray, List.set_cons_zero, List.set_cons_succ]))
                  (refine wpAnyH_take (i := 15) (oi := { dst := some 42, op := _, type := _, pos := _, after := _, guard := _ }) (v := ?_) rfl (by kernel_rfl) (by kernel_rfl) (by kernel_rfl) (fun _ _ _ h => h) (Or.inl ⟨by kernel_rfl, (by intro W' hS'; obtain ⟨z0, z1, z2, z3, z4, z5, z6, z7, z8, z9, z10, z11⟩ := box_cells hS'.1; obtain ⟨y0, y1, y2, y3, y4, y5⟩ := tf_cells hS'.2; go_simp; try with_reducible rfl)⟩) (by assumption) ?_; (try simp only [Act.put, List.setIfInBounds_toArray, List.set_cons_zero, List.set_cons_succ]))
                  (refine wpAnyH_take (i := 16) (oi := { dst := some 43, op := _, type := _, pos := _, after := _, guard := _ }) (v := ?_) rfl (by kernel_rfl) (by kernel_rfl) (by kernel_rfl) (fun _ _ _ h => h) (Or.inl ⟨by kernel_rfl, (by intro W' hS'; obtain ⟨z0, z1, z2, z3, z4, z5, z6, z7, z8, z9, z10, z11⟩ := box_cells hS'.1; obtain ⟨y0, y1, y2, y3, y4, y5⟩ := tf_cells hS'.2; go_simp; try with_reducible rfl)⟩) (by assumption) ?_; (try simp only [Act.put, List.setIfInBounds_toArray, List.set_cons_zero, List.set_cons_succ]))
                  (refine wpAnyH_take (i := 17) (oi := { dst := some 44, op := _, type := _, pos := _, after := _, guard := _ }) (v := ?_) rfl (by kernel_rfl) (by kernel_rfl) (by kernel_rfl) (fun _ _ _ h => h) (Or.inl ⟨by kernel_rfl, (by intro W' hS'; obtain ⟨z0, z1, z2, z3, z4, z5, z6, z7, z8, z9, z10, z11⟩ := box_cells hS'.1; obtain ⟨y0, y1, y2, y3, y4, y5⟩ := tf_cells hS'.2; go_simp; try with_reducible rfl)⟩) (by assumption) ?_; (try simp only [Act.put, List.setIfInBounds_toArray, List.set_cons_zero, List.set_cons_succ]))
                  refine wpAnyH_ready (rs := [18]) (by kernel_rfl) (by simp) ?_
                  refine AllReadyH.cons (o := { dst := some 45, op := _, type := _, pos := _, after := _, guard := _ }) rfl (fun K hK => ?_) AllReadyH.nil
                  refine Eq.mpr (if_pos (by kernel_rfl)) ?_
                  go_simp
                  ((with_reducible refine (HStep.out).mono ?_); rintro r w6 ⟨hr6, hk6, hb6, hl6⟩)
                  rw [hok.out] at hr6
                  subst hr6
                  have hS6 : Blk w6 eb 69 e.cells.toArray ∧ Blk w6 ab 120 #[.func (Fn.func 95) #[] #[], .func (Fn.func 96) #[] #[], .func (Fn.func 97) #[] #[], .func (Fn.func 98) #[] #[], .func (Fn.func 99) #[] #[], .func (Fn.func 100) #[] #[]] := ⟨hk6 _ _ _ hS5.1 (by decide) (by decide), hk6 _ _ _ hS5.2 (by decide) (by decide)⟩
                  have HL6 := Lib.hid (And.intro hb6 hl6)
                  refine hK.out _ _ hS6 (fun hHeld4 => ?_)
                  clear hK K hk6 hb6 hl6
                  try simp only [Act.put, List.setIfInBounds_toArray, List.set_cons_zero, List.set_cons_succ]
                  (refine wpAnyH_take (i := 19) (oi := { dst := some 46, op := _, type := _, pos := _, after := _, guard := _ }) (v := ?_) rfl (by kernel_rfl) (by kernel_rfl) (by kernel_rfl) (fun _ _ _ h => h) (Or.inl ⟨by kernel_rfl, (by intro W' hS'; obtain ⟨z0, z1, z2, z3, z4, z5, z6, z7, z8, z9, z10, z11⟩ := box_cells hS'.1; obtain ⟨y0, y1, y2, y3, y4, y5⟩ := tf_cells hS'.2; go_simp; try with_reducible rfl)⟩) (by assumption) ?_; (try simp only [Act.put, List.setIfInBounds_toArray, List.set_cons_zero, List.set_cons_succ]))
                  (refine wpAnyH_take (i := 20) (oi := { dst := some 47, op := _, type := _, pos := _, after := _, guard := _ }) (v := ?_) rfl (by kernel_rfl) (by kernel_rfl) (by kernel_rfl) (fun _ _ _ h => h) (Or.inl ⟨by kernel_rfl, (by intro W' hS'; obtain ⟨z0, z1, z2, z3, z4, z5, z6, z7, z8, z9, z10, z11⟩ := box_cells hS'.1; obtain ⟨y0, y1, y2, y3, y4, y5⟩ := tf_cells hS'.2; go_simp; try with_reducible rfl)⟩) (by assumption) ?_; (try simp only [Act.put, List.setIfInBounds_toArray, List.set_cons_zero, List.set_cons_succ]))
                  refine wpAnyH_done (by kernel_rfl) ?_ _
                  have HR := Lib.hid (show R10 w _ g A n cap l ab k out e (!ok) from ⟨HL6.out.1, hS6.2, fun h => .inr (.inr (by have := hok.out; cases hs : stepE l e k out with | none => rfl | some s => rw [hs] at this; simp at this; simp [← this] at h)), fun h => ⟨HMy.out, by omega, by have := hok.out; cases hs : stepE l e k out with | none => rw [hs] at this; simp at this; simp [← this] at h | some s => exact ⟨s.1, s.2, rfl, HL6.out.2 s.1 s.2 hs⟩⟩⟩)
                  go_wp2_with fail
                  go_meet
                  exact ⟨_, rfl, HR.out⟩
          case rest =>
            obtain ⟨b, rfl, hR⟩ := hcut
            cases b with
            | true =>
              have hfin : Hid (applyE l es = ([], 210)) := by
                rw [Hid, hr.out, hrun.out, Hd.out]
                rcases hR.out.2.2.1 rfl with h | h | h
                · simp [runE, h]
                · exact apply_over hkl h
                · simp [runE, h]
              go_wp2
              go_ret2
              exact RetAp.nil_ hfin.out hR.out.1
            | false =>
              obtain ⟨hmy, hol1, k', out', hs, hL'⟩ := hR.out.2.2.2 rfl
              obtain ⟨f1, f2, f3⟩ := step_facts hs hmy hkl
              have hrun2 : Hid (runE l es (0, []) = runE l (es.drop (j + 1)) (k', out')) := by
                rw [Hid, hrun.out, Hd.out]
                simp [runE, hmy, hs]
              have HN := Lib.hid (And.intro hL' hR.out.2.1)
              have hwf2 := Lib.hid (step_wf hs HWf.out HWe.out hwf.out)
              have hol2 : out'.length ≤ 4096 := by omega
              clear hs hmy hL'
              go_wp2
              go_roundg (gk - 1)
              case measure => omega
              case rel => exact ⟨j + 1, k', out', by omega, by omega, by go_num, f1, hol2, hwf2.out, HN.out, hrun2.out⟩
        · have b2 : ¬ (j : Int) < (m : Int) := by omega
          have b5 : decide (j < m) = false := decide_eq_false hlt
          have hfin : Hid (applyE l es = if k < l.length ∨ chk out ≠ 0 then ([], 210) else (out, 0)) := by
            rw [Hid, hr.out, hrun.out, List.drop_of_length_le (by rw [← hm.out]; omega)]; rfl
          obtain ⟨A2, n2, c2', v, hL1⟩ := hL.out.1
          obtain ⟨A3, n3, c3, rfl, hn3, hle3, hmx3, hnil3⟩ := hL1.own.form
          have x1 : wr.cell? ⟨g, 1, none⟩ = some (.slice A2 n2 c2') := hL1.blk.cell 1
          have x2 : wr.cell? ⟨g, 2, none⟩ = some (.slice A3 n3 c3) := hL1.blk.cell 2
          have hn2 : n2 = l.length - k := by have h := hL1.len.out; rw [List.length_drop] at h; exact h
          have HL1 := Lib.hid hL1
          have hgl := hL1.blk.lt
          clear hL1 hL hrun
          by_cases t3 : k < l.length
          · have q3 : decide ((0 : Int) < (n2 : Int)) = true := decide_eq_true (by omega)
            have q4 : decide (0 < n2) = true := decide_eq_true (by omega)
            have HR : Hid (applyE l es = ([], 210)) := by rw [Hid, hfin.out, if_pos (.inl t3)]
            have HBe := Lib.hid HL1.out.be
            clear hn2 t3 hlt hj hgk hkl
            go_wp2
            go_ret2
            exact RetAp.nil_ HR.out HBe.out
          · have q3 : decide ((0 : Int) < (n2 : Int)) = false := decide_eq_false (by omega)
            have q4 : decide (0 < n2) = false := decide_eq_false (by omega)
            have HCk := Lib.hid (check_any out A3 n3 c3 wr (HL1.out.own.sl Fr.cells_len) hwf.out hn3)
            have Ht3 := Lib.hid t3
            clear hn2 t3 hlt hj hgk
            by_cases t4 : chk out = 0
            · have HR : Hid (applyE l es = (out, 0)) := by rw [Hid, hfin.out, if_neg (by have := Ht3.out; omega)]
              rw [t4] at HCk
              clear t4
              have hb3 : (n3 : Int) ≤ 4096 := by have h := hn3.out; omega
              have s1 : ∀ W, (Instr.slice 59 (.slice A3 n3 c3) none (some (.int .i64 (n3 : Int))) (some (.int .i64 (n3 : Int)))).run Try.prog W = .ok (.slice A3 n3 n3) W := fun W => by
                have h := run_slice_him (c := 8) Try.underlying59 (Option.isSome_iff_exists.1 (by kernel_rfl)) (by kernel_rfl) A3 n3 c3 (n3 : Int) (n3 : Int) (by omega) (by omega) (by omega) W
                simpa using h
              go_wp2_with fail
              refine (HCk.out).mono ?_; rintro r w5 ⟨rfl, hb5⟩
              have x2' : w5.cell? ⟨g, 2, none⟩ = some (.slice A3 n3 c3) := (hb5.cell (p := ⟨g, 2, none⟩) hgl).trans x2
              have H5 := Lib.hid (HL1.out.ext hb5)
              clear hb5 x1 x2
              go_upto_region 15 with fail
              go_quiet (fail)
              have HO := Lib.hid (((H5.out.own.take Fr.cells_len n3 n3 (by rw [← hn3.out]; omega) (Nat.le_refl _) hle3).drewN nq))
              have HV : Hid (∀ b, (Value.slice A3 n3 n3).ownBlock = some b → w.heap.size ≤ b) := fun b hb => H5.out.vf b (by rw [own_block A3 n3 n3 n3 c3] at hb; exact hb)
              have HBe := Lib.hid (bdrewN H5.out.be nq)
              have hto : Hid (out.take n3 = out) := List.take_of_length_le (by rw [← hn3.out]; omega)
              rw [hto.out] at HO
              go_wp2
              go_ret2
              rw [HR.out]
              exact ⟨A3, n3, n3, rfl, HO.out, HV.out, HBe.out⟩
            · have HR : Hid (applyE l es = ([], 210)) := by rw [Hid, hfin.out, if_pos (.inr t4)]
              have q5 : (chk out != 0) = true := by simpa using t4
              clear t4
              go_wp2_with fail
              refine (HCk.out).mono ?_; rintro r w5 ⟨rfl, hb5⟩
              have HBe := Lib.hid (HL1.out.ext hb5).be
              clear hb5
              go_wp2
              go_ret2
              exact RetAp.nil_ HR.out HBe.out
    · have hr : Hid (applyE l es = ([], 200)) := by rw [Hid, applyE, if_neg (by rw [← hm.out]; omega), if_pos t2]
      have q2 : (chk l != 0) = true := by simpa using t2
      clear t2
      go_enter Try.func45, Try.ntmps45
      go_wp2_with fail
      refine (HC.out).mono ?_; rintro r w1 ⟨rfl, hb1⟩
      have HB1 := Lib.hid hb1
      clear hb1
      go_wp2
      go_ret2
      exact RetAp.nil_ hr.out HB1.out
end Go.Proofs.Ytiljpbncfofnhaa.EdF
