/- frag: the document's Check, Parent, End. -/
import Derived.Test.YtiljpbncfofnhaaCheck
import Derived.Outline
import Derived.BigQuiet
import Derived.Deep.QuietTactic
import Derived.Deep.RegionWith
import Derived.Deep.RegionHeld3
import Derived.Deep.DrawnRows
import Derived.Deep.LoopGhost
import Derived.Deep.DeepCutAuto
import Derived.Laws.EntriesVeiled
namespace Go.Proofs.Ytiljpbncfofnhaa.RTree
open Go.RowKit Go.ChangeShapes Go.WideShapes Go.ChangeAt
set_option linter.unusedVariables false
set_option linter.unusedSimpArgs false
attribute [local go_sem ↓] Go.wp_at_zero Go.wp_at_succ
open FragA FragB MayA Tree

/-! A drawn region by hand, for the case in which a guard passes operations over: the kit's own tactics take first only what runs. -/

theorem undrew {B : Nat} {w w' : World} (h : Below B w.drew w') : Below B w w' := ⟨h.os, h.tape, h.output, h.size, h.block⟩
theorem okAt_no {l : List Fr} {j : Nat} {f : Fr} (hx : l[j]? = some f) (h : mayB f = false ∨ findFrom f.node f.part l 0 < (j : Int)) : okAt l j = false := by
  unfold okAt
  rw [hx]
  rcases h with h | h <;> simp [h]
theorem okAt_first {l : List Fr} {f : Fr} (hx : l[0]? = some f) (hm : mayB f = true) (hf : ¬ findFrom f.node f.part l 0 < ((0 : Nat) : Int)) : okAt l 0 = decide (f.depth = 0) := by
  unfold okAt
  rw [hx]
  simp [hm, hf] at *
  omega
theorem okAt_next {l : List Fr} {j k : Nat} {f g : Fr} (hx : l[j]? = some f) (hg : l[k]? = some g) (hk : k + 1 = j) (hm : mayB f = true) (hf : ¬ findFrom f.node f.part l 0 < (j : Int)) : okAt l j = rng 1 (g.depth + 1) f.depth := by
  unfold okAt
  rw [hx]
  obtain rfl : k = j - 1 := by omega
  simp only [hg, hm, Bool.true_and]
  rw [if_neg (by omega), decide_eq_false hf]
  rfl
theorem okAt_range {l : List Fr} {k : Nat} {g : Fr} (hg : l[k]? = some g) (h : okAt l k = true) : 0 ≤ g.depth ∧ g.depth ≤ 2048 := by
  unfold okAt at h
  rw [hg] at h
  simp only [Bool.and_eq_true] at h
  exact may_depth h.1.1
theorem chk_bad {l : List Fr} {j : Nat} (hj : j < l.length) (h : okAt l j = false) (h2 : l.length ≤ 2048) : chk l = 200 := by
  unfold chk
  rw [if_neg (by omega)]
  split
  · rfl
  · rw [if_neg]
    intro ha
    have := (allOk_iff l).1 ha j hj
    rw [h] at this; cases this
theorem chk_good {l : List Fr} (h0 : 0 < l.length) (h2 : l.length ≤ 2048) (h : ∀ k, k < l.length → okAt l k = true) : chk l = 0 := by
  unfold chk
  rw [if_neg (by omega), if_neg (by omega), if_pos ((allOk_iff l).2 h)]

theorem in_same (n lo hi : Int) (b : Bool) (hb : rng lo hi n = b) (w : World) : Calls Try.prog 94 #[.int .i64 n, .int .i64 lo, .int .i64 hi] w fun e w' => e = .returned (.bool b) ∧ w' = w := by
  subst hb
  exact (in_any n lo hi w).mono fun _ _ h => ⟨h.1, h.2.symm⟩

set_option maxHeartbeats 40000000 in
theorem rcheck_any (l : List Fr) (A : Option Addr) (n cap : Nat) (w : World) (hl : FrSl w w.heap.size A l) (hw : FrsWf l) (hn : Hid (n = l.length)) (h63 : n ≤ maxLen) :
    Calls Try.prog 77 #[.slice A n cap] w fun e w' => e = .returned (.int .i64 (chk l)) ∧ Below w.heap.size w w' := by
  unfold maxLen at h63
  by_cases h2 : 2048 < n
  · have he := Lib.hid (show chk l = 4 by rw [chk, if_pos (by rw [← hn.out]; omega)])
    go_enter Try.func77, Try.ntmps77
    go_wp2
    go_ret
    exact ⟨ret_int he.out.symm, Below.refl _ _⟩
  · by_cases h0 : n = 0
    · have he := Lib.hid (show chk l = 200 by rw [chk, if_neg (by rw [← hn.out]; omega), if_pos (by rw [← hn.out]; omega)])
      subst h0
      go_enter Try.func77, Try.ntmps77
      go_wp2
      go_ret
      exact ⟨ret_int he.out.symm, Below.refl _ _⟩
    · have h0' : ((n : Int) == 0) = false := by simp; omega
      go_enter Try.func77, Try.ntmps77
      go_wp2
      go_loopg [3] n (fun g v wr => ∃ j : Nat, n ≤ j + g ∧ j ≤ n ∧ v = .int .i64 j ∧ Hid (∀ k, k < j → okAt l k = true) ∧ Below w.heap.size w wr)
      case atStart => exact ⟨0, by omega, by omega, rfl, (fun k hk => by omega), Below.refl _ _⟩
      case round =>
        obtain ⟨j, hg, hjn, rfl, hf, hB⟩ := hrel
        by_cases hlt : j < n
        · have hjl : j < l.length := by rw [← hn.out]; exact hlt
          have hx : l[j]? = some l[j] := List.getElem?_eq_getElem hjl
          have hl1 := (hl.below hB).more hB.size
          have hwj := hw _ (List.getElem_mem hjl)
          have HX := Lib.hid hx
          have Hok := Lib.hid (show ∀ k, k < j → okAt l k = true from hf.out)
          obtain ⟨bb, off, hA, hbb, c0, c1, c2, c3, c4, c5, c6, c7⟩ := FrSl.at_ hl1 hx
          have b1 : (0 : Int) ≤ (j : Int) := Int.natCast_nonneg _
          have b2 : (j : Int) < (n : Int) := by omega
          have HM := fun b (hb : mayB l[j] = b) => Lib.hid (hb ▸ rmay_any l[j] wr.drew hwj.text)
          clear hx hwj hf
          generalize l[j] = f at *
          have HF : ∀ r, findFrom f.node f.part l 0 = r → Hid (∀ w2, Below wr.drew.heap.size wr.drew w2 → Calls Try.prog 78 #[.slice A n cap, .int .i64 f.node, .int .i64 f.part] w2 fun e w' => e = .returned (.int .i64 r) ∧ w2 = w') := fun r hr w2 hb => by
            subst hr
            rw [hn.out]
            exact rfind_any l A cap f.node f.part w2 (hl1.drew.ext hb) (by rw [← hn.out]; unfold maxLen; omega)
          unfold Fr.agg at HM
          cases hm : mayB f with
          | false =>
            have he := Lib.hid (chk_bad hjl (okAt_no HX.out (.inl hm)) (by rw [← hn.out]; omega))
            have HM := HM false hm
            clear hm HF
            have HL := Lib.hid hl1
            clear hl1 hl
            subst hA
            go_wp2_with fail
            refine wp_region_held_drew (S := fun w' => w'.cell? ⟨bb, off + j * 8, none⟩ = some (.int .i64 f.node) ∧ w'.cell? ⟨bb, off + j * 8 + 1, none⟩ = some (.int .i64 f.part)
                ∧ w'.cell? ⟨bb, off + j * 8 + 2, none⟩ = some (.int .i64 f.depth) ∧ w'.cell? ⟨bb, off + j * 8 + 3, none⟩ = some (.int .i64 f.x) ∧ w'.cell? ⟨bb, off + j * 8 + 4, none⟩ = some (.int .i64 f.y)
                ∧ w'.cell? ⟨bb, off + j * 8 + 5, none⟩ = some (.int .i64 f.w) ∧ w'.cell? ⟨bb, off + j * 8 + 6, none⟩ = some (.int .i64 f.h) ∧ w'.cell? ⟨bb, off + j * 8 + 7, none⟩ = some (.string f.text)) (by kernel_rfl) ?_ (fun hHeld => ?_)
            · exact ⟨c0, c1, c2, c3, c4, c5, c6, c7⟩
            try simp only [Act.put, List.setIfInBounds_toArray, List.set_cons_zero, List.set_cons_succ]
            (refine wpAnyH_take (i := 0) (oi := { dst := some 16, op := _, type := _, pos := _, after := _, guard := _ }) (v := ?_) rfl (by kernel_rfl) (by kernel_rfl) (by kernel_rfl) (fun _ _ _ h => h) (Or.inl ⟨by kernel_rfl, (by intro w hSw; (try dsimp only at hSw); go_simp; try with_reducible rfl)⟩) (by assumption) ?_; (try simp only [Act.put, List.setIfInBounds_toArray, List.set_cons_zero, List.set_cons_succ]))
            (refine wpAnyH_take (i := 1) (oi := { dst := some 17, op := _, type := _, pos := _, after := _, guard := _ }) (v := ?_) rfl (by kernel_rfl) (by kernel_rfl) (by kernel_rfl) (fun _ _ _ h => h) (Or.inl ⟨by kernel_rfl, (by intro w hSw; (try dsimp only at hSw); go_simp; try with_reducible rfl)⟩) (by assumption) ?_; (try simp only [Act.put, List.setIfInBounds_toArray, List.set_cons_zero, List.set_cons_succ]))
            (refine wpAnyH_take (i := 2) (oi := { dst := some 18, op := _, type := _, pos := _, after := _, guard := _ }) (v := ?_) rfl (by kernel_rfl) (by kernel_rfl) (by kernel_rfl) (fun _ _ _ h => h) (Or.inl ⟨by kernel_rfl, (by intro w hSw; (try dsimp only at hSw); go_simp; try with_reducible rfl)⟩) (by assumption) ?_; (try simp only [Act.put, List.setIfInBounds_toArray, List.set_cons_zero, List.set_cons_succ]))
            (refine wpAnyH_take (i := 3) (oi := { dst := some 19, op := _, type := _, pos := _, after := _, guard := _ }) (v := ?_) rfl (by kernel_rfl) (by kernel_rfl) (by kernel_rfl) (fun _ _ _ h => h) (Or.inl ⟨by kernel_rfl, (by intro w hSw; (try dsimp only at hSw); go_simp; try with_reducible rfl)⟩) (by assumption) ?_; (try simp only [Act.put, List.setIfInBounds_toArray, List.set_cons_zero, List.set_cons_succ]))
            refine wpAnyH_ready (rs := [4]) (by kernel_rfl) (by simp) ?_
            refine AllReadyH.cons (o := { dst := some 20, op := _, type := _, pos := _, after := _, guard := _ }) rfl (fun K hK => ?_) AllReadyH.nil
            go_simp
            go_at_call 76; refine (HM.out).mono ?_; rintro e w' ⟨rfl, hb1⟩
            refine hK.out _ _ ?_ (fun hHeld => ?_)
            · exact ⟨(hb1.cell (p := ⟨bb, _, none⟩) hbb).trans c0, (hb1.cell (p := ⟨bb, _, none⟩) hbb).trans c1, (hb1.cell (p := ⟨bb, _, none⟩) hbb).trans c2, (hb1.cell (p := ⟨bb, _, none⟩) hbb).trans c3, (hb1.cell (p := ⟨bb, _, none⟩) hbb).trans c4, (hb1.cell (p := ⟨bb, _, none⟩) hbb).trans c5, (hb1.cell (p := ⟨bb, _, none⟩) hbb).trans c6, (hb1.cell (p := ⟨bb, _, none⟩) hbb).trans c7⟩
            try simp only [Act.put, List.setIfInBounds_toArray, List.set_cons_zero, List.set_cons_succ]
            clear hK K
            (refine wpAnyH_take (i := 5) (oi := { dst := some 21, op := _, type := _, pos := _, after := _, guard := _ }) (v := ?_) rfl (by kernel_rfl) (by kernel_rfl) (by kernel_rfl) (fun _ _ _ h => h) (Or.inl ⟨by kernel_rfl, (by intro w hSw; (try dsimp only at hSw); go_simp; try with_reducible rfl)⟩) (by assumption) ?_; (try simp only [Act.put, List.setIfInBounds_toArray, List.set_cons_zero, List.set_cons_succ]))
            (refine wpAnyH_take (i := 6) (oi := { dst := some 22, op := _, type := _, pos := _, after := _, guard := _ }) (v := ?_) rfl (by kernel_rfl) (by kernel_rfl) (by kernel_rfl) (fun _ _ _ h => h) (Or.inl ⟨by kernel_rfl, (by intro w hSw; (try dsimp only at hSw); go_simp; try with_reducible rfl)⟩) (by assumption) ?_; (try simp only [Act.put, List.setIfInBounds_toArray, List.set_cons_zero, List.set_cons_succ]))
            (refine wpAnyH_take (i := 7) (oi := { dst := some 23, op := _, type := _, pos := _, after := _, guard := _ }) (v := undef) rfl (by kernel_rfl) (by kernel_rfl) (by kernel_rfl) (fun _ _ _ h => h) (Or.inr ⟨by kernel_rfl, rfl⟩) (by assumption) ?_; (try simp only [Act.put, List.setIfInBounds_toArray, List.set_cons_zero, List.set_cons_succ]))
            (refine wpAnyH_take (i := 8) (oi := { dst := some 24, op := _, type := _, pos := _, after := _, guard := _ }) (v := undef) rfl (by kernel_rfl) (by kernel_rfl) (by kernel_rfl) (fun _ _ _ h => h) (Or.inr ⟨by kernel_rfl, rfl⟩) (by assumption) ?_; (try simp only [Act.put, List.setIfInBounds_toArray, List.set_cons_zero, List.set_cons_succ]))
            (refine wpAnyH_take (i := 9) (oi := { dst := some 25, op := _, type := _, pos := _, after := _, guard := _ }) (v := undef) rfl (by kernel_rfl) (by kernel_rfl) (by kernel_rfl) (fun _ _ _ h => h) (Or.inr ⟨by kernel_rfl, rfl⟩) (by assumption) ?_; (try simp only [Act.put, List.setIfInBounds_toArray, List.set_cons_zero, List.set_cons_succ]))
            (refine wpAnyH_take (i := 10) (oi := { dst := some 26, op := _, type := _, pos := _, after := _, guard := _ }) (v := undef) rfl (by kernel_rfl) (by kernel_rfl) (by kernel_rfl) (fun _ _ _ h => h) (Or.inr ⟨by kernel_rfl, rfl⟩) (by assumption) ?_; (try simp only [Act.put, List.setIfInBounds_toArray, List.set_cons_zero, List.set_cons_succ]))
            (refine wpAnyH_take (i := 11) (oi := { dst := some 27, op := _, type := _, pos := _, after := _, guard := _ }) (v := undef) rfl (by kernel_rfl) (by kernel_rfl) (by kernel_rfl) (fun _ _ _ h => h) (Or.inr ⟨by kernel_rfl, rfl⟩) (by assumption) ?_; (try simp only [Act.put, List.setIfInBounds_toArray, List.set_cons_zero, List.set_cons_succ]))
            (refine wpAnyH_take (i := 12) (oi := { dst := some 28, op := _, type := _, pos := _, after := _, guard := _ }) (v := undef) rfl (by kernel_rfl) (by kernel_rfl) (by kernel_rfl) (fun _ _ _ h => h) (Or.inr ⟨by kernel_rfl, rfl⟩) (by assumption) ?_; (try simp only [Act.put, List.setIfInBounds_toArray, List.set_cons_zero, List.set_cons_succ]))
            (refine wpAnyH_take (i := 13) (oi := { dst := some 29, op := _, type := _, pos := _, after := _, guard := _ }) (v := undef) rfl (by kernel_rfl) (by kernel_rfl) (by kernel_rfl) (fun _ _ _ h => h) (Or.inr ⟨by kernel_rfl, rfl⟩) (by assumption) ?_; (try simp only [Act.put, List.setIfInBounds_toArray, List.set_cons_zero, List.set_cons_succ]))
            (refine wpAnyH_take (i := 14) (oi := { dst := some 30, op := _, type := _, pos := _, after := _, guard := _ }) (v := undef) rfl (by kernel_rfl) (by kernel_rfl) (by kernel_rfl) (fun _ _ _ h => h) (Or.inr ⟨by kernel_rfl, rfl⟩) (by assumption) ?_; (try simp only [Act.put, List.setIfInBounds_toArray, List.set_cons_zero, List.set_cons_succ]))
            (refine wpAnyH_take (i := 15) (oi := { dst := some 31, op := _, type := _, pos := _, after := _, guard := _ }) (v := undef) rfl (by kernel_rfl) (by kernel_rfl) (by kernel_rfl) (fun _ _ _ h => h) (Or.inr ⟨by kernel_rfl, rfl⟩) (by assumption) ?_; (try simp only [Act.put, List.setIfInBounds_toArray, List.set_cons_zero, List.set_cons_succ]))
            (refine wpAnyH_take (i := 16) (oi := { dst := some 32, op := _, type := _, pos := _, after := _, guard := _ }) (v := undef) rfl (by kernel_rfl) (by kernel_rfl) (by kernel_rfl) (fun _ _ _ h => h) (Or.inr ⟨by kernel_rfl, rfl⟩) (by assumption) ?_; (try simp only [Act.put, List.setIfInBounds_toArray, List.set_cons_zero, List.set_cons_succ]))
            (refine wpAnyH_take (i := 17) (oi := { dst := some 33, op := _, type := _, pos := _, after := _, guard := _ }) (v := undef) rfl (by kernel_rfl) (by kernel_rfl) (by kernel_rfl) (fun _ _ _ h => h) (Or.inr ⟨by kernel_rfl, rfl⟩) (by assumption) ?_; (try simp only [Act.put, List.setIfInBounds_toArray, List.set_cons_zero, List.set_cons_succ]))
            (refine wpAnyH_take (i := 18) (oi := { dst := some 34, op := _, type := _, pos := _, after := _, guard := _ }) (v := undef) rfl (by kernel_rfl) (by kernel_rfl) (by kernel_rfl) (fun _ _ _ h => h) (Or.inr ⟨by kernel_rfl, rfl⟩) (by assumption) ?_; (try simp only [Act.put, List.setIfInBounds_toArray, List.set_cons_zero, List.set_cons_succ]))
            (refine wpAnyH_take (i := 19) (oi := { dst := some 35, op := _, type := _, pos := _, after := _, guard := _ }) (v := undef) rfl (by kernel_rfl) (by kernel_rfl) (by kernel_rfl) (fun _ _ _ h => h) (Or.inr ⟨by kernel_rfl, rfl⟩) (by assumption) ?_; (try simp only [Act.put, List.setIfInBounds_toArray, List.set_cons_zero, List.set_cons_succ]))
            (refine wpAnyH_take (i := 20) (oi := { dst := some 36, op := _, type := _, pos := _, after := _, guard := _ }) (v := undef) rfl (by kernel_rfl) (by kernel_rfl) (by kernel_rfl) (fun _ _ _ h => h) (Or.inr ⟨by kernel_rfl, rfl⟩) (by assumption) ?_; (try simp only [Act.put, List.setIfInBounds_toArray, List.set_cons_zero, List.set_cons_succ]))
            (refine wpAnyH_take (i := 21) (oi := { dst := some 37, op := _, type := _, pos := _, after := _, guard := _ }) (v := ?_) rfl (by kernel_rfl) (by kernel_rfl) (by kernel_rfl) (fun _ _ _ h => h) (Or.inl ⟨by kernel_rfl, (by intro w hSw; (try dsimp only at hSw); go_simp; try with_reducible rfl)⟩) (by assumption) ?_; (try simp only [Act.put, List.setIfInBounds_toArray, List.set_cons_zero, List.set_cons_succ]))
            refine wpAnyH_done (by kernel_rfl) ?_ _
            go_wp2
            go_ret
            exact ⟨ret_int he.out.symm, ext_under hB (Nat.le_refl _) (undrew hb1)⟩
          | true =>
            have HM := HM true hm
            have Hm := Lib.hid hm
            clear hm
            obtain ⟨r, hr⟩ : ∃ r, findFrom f.node f.part l 0 = r := ⟨_, rfl⟩
            have HF := HF r hr
            have Hr := Lib.hid hr
            clear hr
            by_cases hrj : r < (j : Int)
            · have he := Lib.hid (chk_bad hjl (okAt_no HX.out (.inr (by rw [Hr.out]; exact hrj))) (by rw [← hn.out]; omega))
              have HL := Lib.hid hl1
              clear hl1 hl
              subst hA
              go_wp2_with fail
              go_region_held3 (fun w' => w'.cell? ⟨bb, off + j * 8, none⟩ = some (.int .i64 f.node) ∧ w'.cell? ⟨bb, off + j * 8 + 1, none⟩ = some (.int .i64 f.part)
                  ∧ w'.cell? ⟨bb, off + j * 8 + 2, none⟩ = some (.int .i64 f.depth) ∧ w'.cell? ⟨bb, off + j * 8 + 3, none⟩ = some (.int .i64 f.x) ∧ w'.cell? ⟨bb, off + j * 8 + 4, none⟩ = some (.int .i64 f.y)
                  ∧ w'.cell? ⟨bb, off + j * 8 + 5, none⟩ = some (.int .i64 f.w) ∧ w'.cell? ⟨bb, off + j * 8 + 6, none⟩ = some (.int .i64 f.h) ∧ w'.cell? ⟨bb, off + j * 8 + 7, none⟩ = some (.string f.text))
                (first | go_keep | (go_split_ands; and_intros <;> (rw [hb1.cell (by simp; try omega)]; first | assumption | go_simp)))
                (first | (go_at_call 76; refine (HM.out).mono ?_; rintro e w' ⟨rfl, hb1⟩) | (go_at_call 78; refine (HF.out _ (by first | exact hb1 | exact bdrewN hb1 _)).mono ?_; rintro e w' ⟨rfl, rfl⟩))
              go_wp2
              go_ret
              exact ⟨ret_int he.out.symm, ext_under hB (Nat.le_refl _) (undrew hb1)⟩
            · have Hrj := Lib.hid hrj
              have HL := Lib.hid hl1
              clear hl1 hl
              subst hA
              go_wp2_with fail
              go_region_held3 (fun w' => w'.cell? ⟨bb, off + j * 8, none⟩ = some (.int .i64 f.node) ∧ w'.cell? ⟨bb, off + j * 8 + 1, none⟩ = some (.int .i64 f.part)
                  ∧ w'.cell? ⟨bb, off + j * 8 + 2, none⟩ = some (.int .i64 f.depth) ∧ w'.cell? ⟨bb, off + j * 8 + 3, none⟩ = some (.int .i64 f.x) ∧ w'.cell? ⟨bb, off + j * 8 + 4, none⟩ = some (.int .i64 f.y)
                  ∧ w'.cell? ⟨bb, off + j * 8 + 5, none⟩ = some (.int .i64 f.w) ∧ w'.cell? ⟨bb, off + j * 8 + 6, none⟩ = some (.int .i64 f.h) ∧ w'.cell? ⟨bb, off + j * 8 + 7, none⟩ = some (.string f.text))
                (first | go_keep | (go_split_ands; and_intros <;> (rw [hb1.cell (by simp; try omega)]; first | assumption | go_simp)))
                (first | (go_at_call 76; refine (HM.out).mono ?_; rintro e w' ⟨rfl, hb1⟩) | (go_at_call 78; refine (HF.out _ (by first | exact hb1 | exact bdrewN hb1 _)).mono ?_; rintro e w' ⟨rfl, rfl⟩))
              have d2 := (hb1.cell (p := ⟨bb, off + j * 8 + 2, none⟩) hbb).trans c2
              have HB := Lib.hid (ext_under hB (Nat.le_refl _) (undrew hb1))
              have HB1 := Lib.hid hb1
              clear hb1 c0 c1 c2 c3 c4 c5 c6 c7
              have Hall := fun (hok : okAt l j = true) => Lib.hid (show ∀ k, k < j + 1 → okAt l k = true from fun k hk => by
                by_cases h : k = j
                · rw [h]; exact hok
                · exact Hok.out k (by omega))
              have Hbad := fun (hok : okAt l j = false) => Lib.hid (chk_bad hjl hok (by rw [← hn.out]; omega))
              by_cases hj0 : j = 0
              · have e1 : ((j : Int) == 0) = true := by simp [hj0]
                have e2 : decide (0 < j) = false := by simp [hj0]
                have hok : okAt l j = decide (f.depth = 0) := by
                  subst hj0
                  exact okAt_first HX.out Hm.out (by rw [Hr.out]; have := Hrj.out; omega)
                clear hj0
                by_cases hd : f.depth = 0
                · have e3 : (f.depth == 0) = true := by simp [hd]
                  have e4 : (f.depth != 0) = false := by simp [hd]
                  have HA := Hall (by rw [hok]; simp [hd])
                  clear hd hok Hall Hbad
                  go_wp2_with fail
                  go_quiet (fail)
                  go_wp2
                  go_roundg (gk - 1)
                  case measure => omega
                  case rel => exact ⟨j + 1, by omega, by omega, by go_num, HA, bdrewN HB.out _⟩
                · have e3 : (f.depth == 0) = false := by simp [hd]
                  have e4 : (f.depth != 0) = true := by simp [hd]
                  have he := Hbad (by rw [hok]; simp [hd])
                  clear hd hok Hall Hbad
                  go_wp2_with fail
                  go_quiet (fail)
                  go_wp2
                  go_ret
                  exact ⟨ret_int he.out.symm, bdrewN HB.out _⟩
              · obtain ⟨k, hk⟩ : ∃ k : Nat, k + 1 = j := ⟨j - 1, by omega⟩
                have e1 : ((j : Int) == 0) = false := by simp [hj0]
                have e2 : decide (0 < j) = true := by simp; omega
                have hkl : k < l.length := by omega
                have hxk : l[k]? = some l[k] := List.getElem?_eq_getElem hkl
                obtain ⟨bb', off', hA', hbb', _, _, g2, _⟩ := FrSl.at_ HL.out hxk
                obtain ⟨rfl, rfl⟩ : bb = bb' ∧ off = off' := by
                  injection hA' with h; injection h with h1 h2; exact ⟨h1, h2⟩
                have g2' := (HB1.out.cell (p := ⟨bb, off + k * 8 + 2, none⟩) hbb).trans g2
                have hok : okAt l j = rng 1 ((l[k]).depth + 1) f.depth := okAt_next HX.out hxk hk Hm.out (by rw [Hr.out]; have := Hrj.out; omega)
                have hrange := okAt_range hxk (Hok.out k (by omega))
                clear g2 hxk hA' hj0
                generalize l[k] = g at *
                have b3 : (0 : Int) ≤ (k : Int) := Int.natCast_nonneg _
                have b4 : (k : Int) < (n : Int) := by omega
                have w1 : IntKind.i64.wrap ((j : Int) - 1) = (k : Int) := by rw [show (j : Int) - 1 = (k : Int) from by omega]; exact IntWalk.i64_in _ (by omega)
                have w2 : IntKind.i64.wrap (g.depth + 1) = g.depth + 1 := IntWalk.i64_in _ (by omega)
                have HI := fun b (hb : rng 1 (g.depth + 1) f.depth = b) => Lib.hid (fun w => in_same f.depth 1 (g.depth + 1) b hb w)
                cases hrg : rng 1 (g.depth + 1) f.depth with
                | true =>
                  have HA := Hall (by rw [hok, hrg])
                  have HI := HI true hrg
                  clear hok hrg Hall Hbad hk
                  go_wp2_with fail
                  go_quiet ((go_at_call 94; with_reducible exact Calls.quiet_of_same (HI.out _)))
                  go_wp2
                  go_roundg (gk - 1)
                  case measure => omega
                  case rel => exact ⟨j + 1, by omega, by omega, by go_num, HA, bdrewN HB.out _⟩
                | false =>
                  have he := Hbad (by rw [hok, hrg])
                  have HI := HI false hrg
                  clear hok hrg Hall Hbad hk
                  go_wp2_with fail
                  go_quiet ((go_at_call 94; with_reducible exact Calls.quiet_of_same (HI.out _)))
                  go_wp2
                  go_ret
                  exact ⟨ret_int he.out.symm, bdrewN HB.out _⟩
        · have Hk := Lib.hid (chk_good (by rw [← hn.out]; omega) (by rw [← hn.out]; omega) (fun k hk => hf.out k (by rw [← hn.out] at hk; omega)))
          go_wp2
          go_ret
          exact ⟨ret_int Hk.out.symm, hB⟩
end Go.Proofs.Ytiljpbncfofnhaa.RTree
