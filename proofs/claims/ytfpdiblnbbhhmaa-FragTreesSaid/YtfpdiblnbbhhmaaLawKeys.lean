/- FragKeys: where any key stands in any fragments, and whether two rows are the same, is what the chapter says: whatever the input, the law returns true and leaves its arguments as they were. -/
import Derived.Test.YtfpdiblnbbhhmaaFragB
import Derived.Test.YtfpdiblnbbhhmaaLift
import Derived.Carry
import Derived.Outline
import Derived.BigQuiet
import Derived.Deep.QuietTactic
import Derived.Deep.RegionWith
import Derived.Deep.RegionHeld3
import Derived.Deep.DrawnRows
import Derived.Deep.LoopGhost
import Derived.Deep.DeepCutAuto
import Derived.Laws.EntriesVeiled
namespace Go.Proofs.Ytfpdiblnbbhhmaa.lawKeys
open Go.RowKit Go.ChangeShapes Go.WideShapes Go.ChangeAt
set_option linter.unusedVariables false
set_option linter.unusedSimpArgs false
attribute [local go_sem ↓] Go.wp_at_zero Go.wp_at_succ
open FragA FragB

theorem great_is {l : List Fr} {A : Option Addr} {cap : Nat} {w : World} {b : Bool} (hb : greatFrom 0 0 l = b) (hl : FrSl w w.heap.size A l) (hm : l.length ≤ maxLen) (hw : FrsWf l) :
    Calls Try.prog 7 #[.slice A l.length cap] w fun e w' => e = .returned (.bool b) ∧ w = w' := by
  have h := great_any l A cap w hl hm hw
  rwa [hb] at h

theorem walk (l m : List Fr) (A B : Option Addr) (ca cb : Nat) (n p : Int) (w : World) (hl : FrSl w w.heap.size A l) (hm : FrSl w w.heap.size B m) (h63 : l.length ≤ maxLen) (h63' : m.length ≤ maxLen)
    (hwl : FrsWf l) (hwm : FrsWf m) :
    Calls Try.prog 3 #[.slice A l.length ca, .slice B m.length cb, .int .i64 n, .int .i64 p] w fun e w' => e = .returned (.bool true) ∧ Below w.heap.size w w' := by
  cases g1 : greatFrom 0 0 l with
  | true =>
    have c1 := Lib.hid (great_is (cap := ca) g1 hl h63 hwl)
    clear g1
    go_enter Try.func3, Try.ntmps3
    go_wp2_with (go_at_call 7; refine (c1.out).mono ?_; rintro e w' ⟨rfl, rfl⟩)
    go_ret
    exact ⟨rfl, Below.refl _ _⟩
  | false =>
    cases g2 : greatFrom 0 0 m with
    | true =>
      have c1 := Lib.hid (great_is (cap := ca) g1 hl h63 hwl)
      have c2 := Lib.hid (great_is (cap := cb) g2 hm h63' hwm)
      clear g1 g2
      go_enter Try.func3, Try.ntmps3
      go_wp2_with fail
      refine (c1.out).mono ?_; rintro e w' ⟨rfl, rfl⟩
      go_wp2_with fail
      refine (c2.out).mono ?_; rintro e w' ⟨rfl, rfl⟩
      go_wp2_with fail
      go_ret
      exact ⟨rfl, Below.refl _ _⟩
    | false =>
      have c1 := Lib.hid (great_is (cap := ca) g1 hl h63 hwl)
      have c2 := Lib.hid (great_is (cap := cb) g2 hm h63' hwm)
      have hlen := great_le g1
      have hs := Lib.hid (eqL_self l)
      clear g1 g2
      go_enter Try.func3, Try.ntmps3
      go_wp2_with fail
      refine (c1.out).mono ?_; rintro e w' ⟨rfl, rfl⟩
      go_wp2_with fail
      refine (c2.out).mono ?_; rintro e w' ⟨rfl, rfl⟩
      go_wp2_with fail
      refine (find_any l A ca n p w hl h63).mono ?_; rintro e w1 ⟨rfl, hb1⟩
      have hl1 := (hl.below hb1).more hb1.size
      have hm1 := (hm.below hb1).more hb1.size
      go_wp2_with fail
      refine (rfind_any l A ca n p w1 hl1 h63).mono ?_; rintro e w' ⟨rfl, rfl⟩
      generalize findFrom n p l 0 = r
      go_wp2_with fail
      refine (same_any l m A B ca cb w1 hl1 hm1 h63 h63').mono ?_; rintro e w2 ⟨rfl, hb2⟩
      have hl2 := (hl1.below hb2).more hb2.size
      have hm2 := (hm1.below hb2).more hb2.size
      go_wp2_with fail
      refine (rsame_any l m A B ca cb w2 hl2 hm2 h63 h63').mono ?_; rintro e w3 ⟨rfl, hb3⟩
      have hl3 := (hl2.below hb3).more hb3.size
      generalize eqL l m = b
      go_wp2_with fail
      refine (copy_any l A ca w3 hl3 (by omega)).mono ?_; rintro e w4 ⟨v, rfl, hown, hb4⟩
      obtain ⟨C, cc, rfl, hC, _, _⟩ := hown.sl Fr.cells_len
      have hl4 := (hl3.below hb4).more hb4.size
      have h5 := same_any l l A C ca cc w4 hl4 hC h63 h63
      rw [hs.out] at h5
      go_wp2_with fail
      refine h5.mono ?_; rintro e w5 ⟨rfl, hb5⟩
      go_wp2_with fail
      go_ret
      exact ⟨rfl, bto (bto (bto (bto hb1 hb2 hb1.size) hb3 (Nat.le_trans hb1.size hb2.size)) hb4 (Nat.le_trans hb1.size (Nat.le_trans hb2.size hb3.size))) hb5 (Nat.le_trans hb1.size (Nat.le_trans hb2.size (Nat.le_trans hb3.size hb4.size)))⟩

set_option maxRecDepth 100000 in
theorem lifted (os : Os) (started : os.Started) (H : Type) (enc : TypeId × Value → H) :
    ReturnsInHanded {} Try.checked os 3 .any (Rows.fragKeysSpec.pre6 enc Try.prog Try.f3 Rows.fragKeysRow.domain false) (Rows.fragKeysSpec.post enc Try.prog Try.f3 false true false false) := by
  refine returnsInHanded_of_change_sized (C := Try.checked) own started (by kernel_rfl) Try.func3
    (ChangeSpec.witness6 (enc := enc) (C := Try.checked) false ⟨#[], #[.slice none 0 0, .slice none 0 0, .int .i64 0, .int .i64 0], []⟩ 8 (by kernel_rfl) (by kernel_rfl) (by kernel_rfl) (by kernel_rfl)) ?_
  intro W base args ds gs before hval0 hW hcnd hsz0 _
  have hval : ∀ (j : Nat) t v, Try.f3.params[j]? = some t → args[j]? = some v → Value.okWide Try.prog W .any base t v := hval0
  have hW' := hW
  obtain ⟨p, q, hA0, hV, rfl, hfz, hnd⟩ := hW
  have hA : DataW.TrodAll enc Try.prog W 0 (fun _ => true) true Try.f3.params.toList args.toList ds p := hA0
  have hsz : (DataW.weightsEach Try.prog (Try.f3.params.toList ++ []) (ds ++ gs)).all (· ≤ reachBytes) = true := hsz0
  rw [Try.params3] at hA hval hsz
  have hAll := hA
  obtain ⟨v0, vs0, d0, ds0, p0, q0, hargs, rfl, rfl, h0, r0⟩ := trodAll_cons hA
  obtain ⟨v1, vs1, d1, ds1, p1, q1, rfl, rfl, rfl, h1, r1⟩ := trodAll_cons r0
  obtain ⟨v2, vs2, d2, ds2, p2, q2, rfl, rfl, rfl, h2, r2⟩ := trodAll_cons r1
  obtain ⟨v3, vs3, d3, ds3, p3, q3, rfl, rfl, rfl, h3, r3⟩ := trodAll_cons r2
  obtain ⟨rfl, rfl, rfl⟩ := trodAll_nil r3
  obtain rfl : args = #[v0, v1, v2, v3] := by cases args; simp_all
  obtain ⟨rfl, rfl⟩ := trodVars_none hV
  obtain ⟨l_A, l, l_cap, rfl, l_sl, l_ok, l_le, l_max, l_reach, l_nil⟩ := open_sl Try.underlying22 (c := 8) (by kernel_rfl) (by decide) opens_fr (hval 0 22 v0 rfl rfl) h0 (light_of hsz (j := 0) rfl rfl)
  obtain ⟨m_A, m, m_cap, rfl, m_sl, m_ok, m_le, m_max, m_reach, m_nil⟩ := open_sl Try.underlying22 (c := 8) (by kernel_rfl) (by decide) opens_fr (hval 1 22 v1 rfl rfl) h1 (light_of hsz (j := 1) rfl rfl)
  obtain ⟨n, rfl, _, _, n_wf⟩ := open_int Try.underlying3 (hval 2 3 v2 rfl rfl) h2
  obtain ⟨p, rfl, _, _, p_wf⟩ := open_int Try.underlying3 (hval 3 3 v3 rfl rfl) h3
  refine (walk l m l_A m_A l_cap m_cap n p W l_sl m_sl (Nat.le_trans l_le l_max) (Nat.le_trans m_le m_max) l_ok m_ok).mono fun e W' ⟨he, bel⟩ => ?_
  subst he
  exact ⟨_, rfl, _, _, _, [], _, [], hW', trodAll_mk1 (shut_bool Try.underlying4 _), keep_args laidOut bel (by kernel_rfl) hAll, rfl, bel.frame _, fun h => by cases h⟩

theorem over : Rows.fragKeysRow.holds Try.pinned (OpenSpec.ofChange Rows.fragKeysSpec) :=
  OpenClaim.holds_of_wide 3 Try.f3 rfl rfl rfl rfl rfl rfl rfl ⟨rfl, rfl, rfl, rfl, rfl⟩ rfl rfl rfl rfl rfl (by kernel_rfl) Try.func3 (by kernel_rfl)
    (of_decide_eq_true (by kernel_rfl)) (by unfold Func.isWrapper; first | (rw [if_pos (by decide +kernel)]; kernel_rfl) | (rw [if_neg (by decide +kernel)]; exact ⟨rfl, rfl⟩))
    (fun os started H enc _ => lifted os started H enc)

theorem proved : Rows.FragKeysSaid := over
#print axioms proved
end Go.Proofs.Ytfpdiblnbbhhmaa.lawKeys
