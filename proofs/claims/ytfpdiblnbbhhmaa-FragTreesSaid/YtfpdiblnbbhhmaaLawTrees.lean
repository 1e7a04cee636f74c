/- FragTrees: trees of fragments, whatever the input: what the program says of them is what the chapter says; the law returns true and leaves its arguments as they were. -/
import Derived.Test.YtfpdiblnbbhhmaaRTreeB
import Derived.Test.YtfpdiblnbbhhmaaLawKeys
import Derived.Test.YtfpdiblnbbhhmaaLift
import Derived.Carry
import Derived.Outline
import Derived.BigQuiet
import Derived.Deep.QuietTactic
import Derived.Deep.RegionWith
import Derived.Deep.RegionHeld3
import Derived.Deep.DrawnRows
import Derived.Deep.LoopGhost
import Derived.Deep.DeepCutAuto
import Derived.Laws.EntriesVeiled
namespace Go.Proofs.Ytfpdiblnbbhhmaa.lawTrees
open Go.RowKit Go.ChangeShapes Go.WideShapes Go.ChangeAt
set_option linter.unusedVariables false
set_option linter.unusedSimpArgs false
attribute [local go_sem ↓] Go.wp_at_zero Go.wp_at_succ
open FragA FragB MayA Tree FCheck RTree

theorem keep_two {w w' : World} {b1 o1 b2 o2 : Nat} {f : Fr} (h : w.cell? ⟨b1, o1, none⟩ = some (.int .i64 f.node) ∧ w.cell? ⟨b1, o1 + 1, none⟩ = some (.int .i64 f.part) ∧ w.cell? ⟨b1, o1 + 2, none⟩ = some (.int .i64 f.depth) ∧ w.cell? ⟨b1, o1 + 3, none⟩ = some (.int .i64 f.x) ∧ w.cell? ⟨b1, o1 + 4, none⟩ = some (.int .i64 f.y) ∧ w.cell? ⟨b1, o1 + 5, none⟩ = some (.int .i64 f.w) ∧ w.cell? ⟨b1, o1 + 6, none⟩ = some (.int .i64 f.h) ∧ w.cell? ⟨b1, o1 + 7, none⟩ = some (.string f.text) ∧ w.cell? ⟨b2, o2, none⟩ = some (.int .i64 f.node) ∧ w.cell? ⟨b2, o2 + 1, none⟩ = some (.int .i64 f.part) ∧ w.cell? ⟨b2, o2 + 2, none⟩ = some (.int .i64 f.depth) ∧ w.cell? ⟨b2, o2 + 3, none⟩ = some (.int .i64 f.x) ∧ w.cell? ⟨b2, o2 + 4, none⟩ = some (.int .i64 f.y) ∧ w.cell? ⟨b2, o2 + 5, none⟩ = some (.int .i64 f.w) ∧ w.cell? ⟨b2, o2 + 6, none⟩ = some (.int .i64 f.h) ∧ w.cell? ⟨b2, o2 + 7, none⟩ = some (.string f.text)) (hb : Below w.heap.size w w') : w'.cell? ⟨b1, o1, none⟩ = some (.int .i64 f.node) ∧ w'.cell? ⟨b1, o1 + 1, none⟩ = some (.int .i64 f.part) ∧ w'.cell? ⟨b1, o1 + 2, none⟩ = some (.int .i64 f.depth) ∧ w'.cell? ⟨b1, o1 + 3, none⟩ = some (.int .i64 f.x) ∧ w'.cell? ⟨b1, o1 + 4, none⟩ = some (.int .i64 f.y) ∧ w'.cell? ⟨b1, o1 + 5, none⟩ = some (.int .i64 f.w) ∧ w'.cell? ⟨b1, o1 + 6, none⟩ = some (.int .i64 f.h) ∧ w'.cell? ⟨b1, o1 + 7, none⟩ = some (.string f.text) ∧ w'.cell? ⟨b2, o2, none⟩ = some (.int .i64 f.node) ∧ w'.cell? ⟨b2, o2 + 1, none⟩ = some (.int .i64 f.part) ∧ w'.cell? ⟨b2, o2 + 2, none⟩ = some (.int .i64 f.depth) ∧ w'.cell? ⟨b2, o2 + 3, none⟩ = some (.int .i64 f.x) ∧ w'.cell? ⟨b2, o2 + 4, none⟩ = some (.int .i64 f.y) ∧ w'.cell? ⟨b2, o2 + 5, none⟩ = some (.int .i64 f.w) ∧ w'.cell? ⟨b2, o2 + 6, none⟩ = some (.int .i64 f.h) ∧ w'.cell? ⟨b2, o2 + 7, none⟩ = some (.string f.text) := by
  obtain ⟨k0, k1, k2, k3, k4, k5, k6, k7, k8, k9, k10, k11, k12, k13, k14, k15⟩ := h
  have l1 := World.block_lt_of_cell? w _ k0
  have l2 := World.block_lt_of_cell? w _ k8
  exact ⟨(hb.cell (p := ⟨b1, o1, none⟩) l1).trans k0, (hb.cell (p := ⟨b1, o1 + 1, none⟩) l1).trans k1, (hb.cell (p := ⟨b1, o1 + 2, none⟩) l1).trans k2, (hb.cell (p := ⟨b1, o1 + 3, none⟩) l1).trans k3, (hb.cell (p := ⟨b1, o1 + 4, none⟩) l1).trans k4, (hb.cell (p := ⟨b1, o1 + 5, none⟩) l1).trans k5, (hb.cell (p := ⟨b1, o1 + 6, none⟩) l1).trans k6, (hb.cell (p := ⟨b1, o1 + 7, none⟩) l1).trans k7, (hb.cell (p := ⟨b2, o2, none⟩) l2).trans k8, (hb.cell (p := ⟨b2, o2 + 1, none⟩) l2).trans k9, (hb.cell (p := ⟨b2, o2 + 2, none⟩) l2).trans k10, (hb.cell (p := ⟨b2, o2 + 3, none⟩) l2).trans k11, (hb.cell (p := ⟨b2, o2 + 4, none⟩) l2).trans k12, (hb.cell (p := ⟨b2, o2 + 5, none⟩) l2).trans k13, (hb.cell (p := ⟨b2, o2 + 6, none⟩) l2).trans k14, (hb.cell (p := ⟨b2, o2 + 7, none⟩) l2).trans k15⟩

theorem step {w0 w w' : World} {A C : Option Addr} {l : List Fr} (h : Below w0.heap.size w0 w ∧ FrSl w w.heap.size A l ∧ FrSl w w.heap.size C l) (hb : Below w.heap.size w w') :
    Below w0.heap.size w0 w' ∧ FrSl w' w'.heap.size A l ∧ FrSl w' w'.heap.size C l := ⟨ext_under h.1 (Nat.le_refl _) hb, h.2.1.ext hb, h.2.2.ext hb⟩

set_option maxHeartbeats 4000000 in
theorem walk (l : List Fr) (A : Option Addr) (cap : Nat) (i : Int) (w : World) (hl : FrSl w w.heap.size A l) (h63 : l.length ≤ maxLen) (hw : FrsWf l) :
    Calls Try.prog 6 #[.slice A l.length cap, .int .i64 i] w fun e w' => e = .returned (.bool true) ∧ Below w.heap.size w w' := by
  cases g1 : greatFrom 0 0 l with
  | true =>
    have c1 := Lib.hid (lawKeys.great_is (cap := cap) g1 hl h63 hw)
    clear g1
    go_enter Try.func6, Try.ntmps6
    go_wp2_with (go_at_call 7; refine (c1.out).mono ?_; rintro e w' ⟨rfl, rfl⟩)
    go_ret
    exact ⟨rfl, Below.refl _ _⟩
  | false =>
    have c1 := Lib.hid (lawKeys.great_is (cap := cap) g1 hl h63 hw)
    have hlen := great_le g1
    have hs := Lib.hid (eqL_self l)
    clear g1
    have cp := Lib.hid (copy_any l A cap w hl (by omega))
    obtain ⟨n, hn⟩ : ∃ n, Hid (n = l.length) := ⟨_, rfl⟩
    have hn200 : n ≤ 200 := by rw [hn.out]; exact hlen
    have hmax : Hid (n ≤ maxLen) := by rw [Hid, hn.out]; exact h63
    rw [← hn.out] at c1 cp ⊢
    have Hl := Lib.hid hlen
    have H63 := Lib.hid h63
    clear hlen h63
    go_enter Try.func6, Try.ntmps6
    go_wp2_with fail
    refine (c1.out).mono ?_; rintro e w' ⟨rfl, rfl⟩
    go_wp2_with fail
    refine (cp.out).mono ?_; rintro e w1 ⟨v, rfl, hown, hb1⟩
    obtain ⟨C, cc, hv, hC, _, _⟩ := hown.sl Fr.cells_len
    rw [← hn.out] at hv
    subst hv
    have hl1 := (hl.below hb1).more hb1.size
    have T1 := Lib.hid (show Below w.heap.size w w1 ∧ FrSl w1 w1.heap.size A l ∧ FrSl w1 w1.heap.size C l from ⟨hb1, (hl.below hb1).more hb1.size, hC⟩)
    clear hl hown hb1 hC c1 cp
    by_cases h0 : n = 0
    · have h0' : decide (0 < n) = false := by simp [h0]
      clear h0
      go_wp2_with fail
      go_quiet (fail)
      have T2 := Lib.hid (step T1.out (bdrewN (Below.refl _ _) nq))
      go_wp2_with fail
      refine (check_any l C n cc _ T2.out.2.2 hw hn).mono ?_; rintro e w3 ⟨rfl, hb3⟩
      have T3 := Lib.hid (step T2.out hb3)
      clear hb3
      go_wp2_with fail
      refine (rcheck_any l A n cap _ T3.out.2.1 hw hn hmax.out).mono ?_; rintro e w4 ⟨rfl, hb4⟩
      have T4 := Lib.hid (step T3.out hb4)
      clear hb4
      generalize chk l = c
      go_wp2_with fail
      refine (parent_any l C n cc i _ T4.out.2.2 hw hn).mono ?_; rintro e w5 ⟨rfl, hb5⟩
      have T5 := Lib.hid (step T4.out hb5)
      clear hb5
      go_wp2_with fail
      refine (rparent_any l A n cap i _ T5.out.2.1 hw hn hmax).mono ?_; rintro e w6 ⟨rfl, hb6⟩
      have T6 := Lib.hid (step T5.out hb6)
      clear hb6
      generalize parentOf l i = p
      go_wp2_with fail
      refine (end_any l C n cc i _ T6.out.2.2 hw hn hmax.out).mono ?_; rintro e w7 ⟨rfl, hb7⟩
      have T7 := Lib.hid (step T6.out hb7)
      clear hb7
      go_wp2_with fail
      refine (rend_any l A n cap i _ T7.out.2.1 hw hn hmax).mono ?_; rintro e w8 ⟨rfl, hb8⟩
      have T8 := Lib.hid (step T7.out hb8)
      clear hb8
      generalize endOf l i = z
      have h9 := rsame_any l l C A cc cap w8 T8.out.2.2 T8.out.2.1 H63.out H63.out
      rw [hs.out, ← hn.out] at h9
      go_wp2_with fail
      refine h9.mono ?_; rintro e w9 ⟨rfl, hb9⟩
      go_wp2_with fail
      go_ret
      exact ⟨rfl, (step T8.out hb9).1⟩
    · obtain ⟨f, hx⟩ : ∃ f, l[0]? = some f := ⟨_, List.getElem?_eq_getElem (i := 0) (by rw [← hn.out]; omega)⟩
      have ht := (hw _ (List.mem_of_getElem? hx)).text
      obtain ⟨b1, o1, hA, _, k0, k1, k2, k3, k4, k5, k6, k7⟩ := FrSl.at_ T1.out.2.1 hx
      obtain ⟨b2, o2, hC, _, k8, k9, k10, k11, k12, k13, k14, k15⟩ := FrSl.at_ T1.out.2.2 hx
      simp only [Nat.zero_mul, Nat.add_zero] at k0 k1 k2 k3 k4 k5 k6 k7 k8 k9 k10 k11 k12 k13 k14 k15
      have h0' : decide (0 < n) = true := by simp; omega
      have h0'' : 0 < n := by omega
      have m1 := Lib.hid (fun w => may_any f w ht)
      have m2 := Lib.hid (fun w => rmay_any f w ht)
      clear hx ht h0
      generalize mayB f = b at *
      unfold Fr.agg at m1 m2
      have KK := And.intro k0 (And.intro k1 (And.intro k2 (And.intro k3 (And.intro k4 (And.intro k5 (And.intro k6 (And.intro k7 (And.intro k8 (And.intro k9 (And.intro k10 (And.intro k11 (And.intro k12 (And.intro k13 (And.intro k14 k15))))))))))))))
      subst hA hC
      go_wp2_with fail
      go_region_held3 (fun w' => w'.cell? ⟨b1, o1, none⟩ = some (.int .i64 f.node) ∧ w'.cell? ⟨b1, o1 + 1, none⟩ = some (.int .i64 f.part) ∧ w'.cell? ⟨b1, o1 + 2, none⟩ = some (.int .i64 f.depth) ∧ w'.cell? ⟨b1, o1 + 3, none⟩ = some (.int .i64 f.x) ∧ w'.cell? ⟨b1, o1 + 4, none⟩ = some (.int .i64 f.y) ∧ w'.cell? ⟨b1, o1 + 5, none⟩ = some (.int .i64 f.w) ∧ w'.cell? ⟨b1, o1 + 6, none⟩ = some (.int .i64 f.h) ∧ w'.cell? ⟨b1, o1 + 7, none⟩ = some (.string f.text) ∧ w'.cell? ⟨b2, o2, none⟩ = some (.int .i64 f.node) ∧ w'.cell? ⟨b2, o2 + 1, none⟩ = some (.int .i64 f.part) ∧ w'.cell? ⟨b2, o2 + 2, none⟩ = some (.int .i64 f.depth) ∧ w'.cell? ⟨b2, o2 + 3, none⟩ = some (.int .i64 f.x) ∧ w'.cell? ⟨b2, o2 + 4, none⟩ = some (.int .i64 f.y) ∧ w'.cell? ⟨b2, o2 + 5, none⟩ = some (.int .i64 f.w) ∧ w'.cell? ⟨b2, o2 + 6, none⟩ = some (.int .i64 f.h) ∧ w'.cell? ⟨b2, o2 + 7, none⟩ = some (.string f.text))
        (first | exact KK | (exact keep_two KK (undrew hbm1)) | (exact keep_two (keep_two KK (undrew hbm1)) hbm2) | (exact keep_two KK hbm1) | (exact keep_two (keep_two KK hbm1) hbm2))
        (first | (go_at_call 19; refine (m1.out _).mono ?_; rintro e w' ⟨rfl, hbm1⟩) | (go_at_call 20; refine (m2.out _).mono ?_; rintro e w' ⟨rfl, hbm2⟩))
      have T2 := Lib.hid (step (step T1.out (undrew hbm1)) hbm2)
      go_wp2_with fail
      refine (check_any l _ n cc _ T2.out.2.2 hw hn).mono ?_; rintro e w3 ⟨rfl, hb3⟩
      have T3 := Lib.hid (step T2.out hb3)
      clear hb3
      go_wp2_with fail
      refine (rcheck_any l _ n cap _ T3.out.2.1 hw hn hmax.out).mono ?_; rintro e w4 ⟨rfl, hb4⟩
      have T4 := Lib.hid (step T3.out hb4)
      clear hb4
      generalize chk l = c
      go_wp2_with fail
      refine (parent_any l _ n cc i _ T4.out.2.2 hw hn).mono ?_; rintro e w5 ⟨rfl, hb5⟩
      have T5 := Lib.hid (step T4.out hb5)
      clear hb5
      go_wp2_with fail
      refine (rparent_any l _ n cap i _ T5.out.2.1 hw hn hmax).mono ?_; rintro e w6 ⟨rfl, hb6⟩
      have T6 := Lib.hid (step T5.out hb6)
      clear hb6
      generalize parentOf l i = p
      go_wp2_with fail
      refine (end_any l _ n cc i _ T6.out.2.2 hw hn hmax.out).mono ?_; rintro e w7 ⟨rfl, hb7⟩
      have T7 := Lib.hid (step T6.out hb7)
      clear hb7
      go_wp2_with fail
      refine (rend_any l _ n cap i _ T7.out.2.1 hw hn hmax).mono ?_; rintro e w8 ⟨rfl, hb8⟩
      have T8 := Lib.hid (step T7.out hb8)
      clear hb8
      generalize endOf l i = z
      have h9 := rsame_any l l _ _ cc cap w8 T8.out.2.2 T8.out.2.1 H63.out H63.out
      rw [hs.out, ← hn.out] at h9
      go_wp2_with fail
      refine h9.mono ?_; rintro e w9 ⟨rfl, hb9⟩
      go_wp2_with fail
      go_ret
      exact ⟨rfl, (step T8.out hb9).1⟩

set_option maxRecDepth 100000 in
theorem lifted (os : Os) (started : os.Started) (H : Type) (enc : TypeId × Value → H) :
    ReturnsInHanded {} Try.checked os 6 .any (Rows.fragTreesSpec.pre6 enc Try.prog Try.f6 Rows.fragTreesRow.domain false) (Rows.fragTreesSpec.post enc Try.prog Try.f6 false true false false) := by
  refine returnsInHanded_of_change_sized (C := Try.checked) own started (by kernel_rfl) Try.func6
    (ChangeSpec.witness6 (enc := enc) (C := Try.checked) false ⟨#[], #[.slice none 0 0, .int .i64 0], []⟩ 8 (by kernel_rfl) (by kernel_rfl) (by kernel_rfl) (by kernel_rfl)) ?_
  intro W base args ds gs before hval0 hW hcnd hsz0 _
  have hval : ∀ (j : Nat) t v, Try.f6.params[j]? = some t → args[j]? = some v → Value.okWide Try.prog W .any base t v := hval0
  have hW' := hW
  obtain ⟨p, q, hA0, hV, rfl, hfz, hnd⟩ := hW
  have hA : DataW.TrodAll enc Try.prog W 0 (fun _ => true) true Try.f6.params.toList args.toList ds p := hA0
  have hsz : (DataW.weightsEach Try.prog (Try.f6.params.toList ++ []) (ds ++ gs)).all (· ≤ reachBytes) = true := hsz0
  rw [Try.params6] at hA hval hsz
  have hAll := hA
  obtain ⟨v0, vs0, d0, ds0, p0, q0, hargs, rfl, rfl, h0, r0⟩ := trodAll_cons hA
  obtain ⟨v1, vs1, d1, ds1, p1, q1, rfl, rfl, rfl, h1, r1⟩ := trodAll_cons r0
  obtain ⟨rfl, rfl, rfl⟩ := trodAll_nil r1
  obtain rfl : args = #[v0, v1] := by cases args; simp_all
  obtain ⟨rfl, rfl⟩ := trodVars_none hV
  obtain ⟨l_A, l, l_cap, rfl, l_sl, l_ok, l_le, l_max, l_reach, l_nil⟩ := open_sl Try.underlying22 (c := 8) (by kernel_rfl) (by decide) opens_fr (hval 0 22 v0 rfl rfl) h0 (light_of hsz (j := 0) rfl rfl)
  obtain ⟨i, rfl, _, _, i_wf⟩ := open_int Try.underlying3 (hval 1 3 v1 rfl rfl) h1
  refine (walk l l_A l_cap i W l_sl (Nat.le_trans l_le l_max) l_ok).mono fun e W' ⟨he, bel⟩ => ?_
  subst he
  exact ⟨_, rfl, _, _, _, [], _, [], hW', trodAll_mk1 (shut_bool Try.underlying4 _), keep_args laidOut bel (by kernel_rfl) hAll, rfl, bel.frame _, fun h => by cases h⟩

theorem over : Rows.fragTreesRow.holds Try.pinned (OpenSpec.ofChange Rows.fragTreesSpec) :=
  OpenClaim.holds_of_wide 6 Try.f6 rfl rfl rfl rfl rfl rfl rfl ⟨rfl, rfl, rfl, rfl, rfl⟩ rfl rfl rfl rfl rfl (by kernel_rfl) Try.func6 (by kernel_rfl)
    (of_decide_eq_true (by kernel_rfl)) (by unfold Func.isWrapper; first | (rw [if_pos (by decide +kernel)]; kernel_rfl) | (rw [if_neg (by decide +kernel)]; exact ⟨rfl, rfl⟩))
    (fun os started H enc _ => lifted os started H enc)

theorem proved : Rows.FragTreesSaid := over
#print axioms proved
end Go.Proofs.Ytfpdiblnbbhhmaa.lawTrees
