/- DiffFew: no edits that make the new tree of the old one put fewer fragments anew than the difference does: that makes the same one by other edits: whatever the input, the law returns true and leaves its arguments as they were. -/
import Derived.Test.YtiljpbncfofnhaaDfS
import Derived.Test.YtiljpbncfofnhaaDfU
import Derived.Test.YtiljpbncfofnhaaEdJ
import Derived.Test.YtiljpbncfofnhaaEdM
import Derived.Test.YtiljpbncfofnhaaOpen
import Derived.Test.YtiljpbncfofnhaaLift
import Derived.Outline
import Derived.BigQuiet
import Derived.Deep.QuietTactic
import Derived.Deep.RegionWith
import Derived.Deep.RegionHeld3
import Derived.Deep.DrawnRows
import Derived.Deep.LoopGhost
import Derived.Deep.DeepCutAuto
import Derived.Laws.EntriesVeiled
import Derived.BigQuiet
namespace Go.Proofs.Ytiljpbncfofnhaa.lawFew
open Go.RowKit Go.ChangeShapes Go.WideShapes Go.ChangeAt
set_option linter.unusedVariables false
set_option linter.unusedSimpArgs false
attribute [local go_sem ↓] Go.wp_at_zero Go.wp_at_succ
open FragA FragB MayA Tree FCheck EdB EdC EdF Dif
theorem run_wf {l : List Fr} (hl : FrsWf l) : ∀ {es : List Ed} {s s' : Nat × List Fr}, EdsWf es → FrsWf s.2 → runE l es s = some s' → FrsWf s'.2
  | [], s, s', _, ho, h => by cases h; exact ho
  | e :: es, s, s', he, ho, h => by
    unfold runE at h
    split at h
    · cases hst : stepE l e s.1 s.2 with
      | none => rw [hst] at h; cases h
      | some s1 =>
        obtain ⟨k1, out1⟩ := s1
        rw [hst] at h
        exact run_wf hl (fun x hx => he x (List.mem_cons_of_mem _ hx)) (step_wf hst hl (he e List.mem_cons_self) ho) h
    · cases h
set_option maxRecDepth 100000 in
set_option maxHeartbeats 8000000 in
theorem walk (a : List Fr) (es : List Ed) (A : Option Addr) (ca : Nat) (B : Option Addr) (cb : Nat) (w : World) (ha : FrSl w w.heap.size A a) (h63 : a.length ≤ maxLen) (hwa : FrsWf a) (he : EdSl w w.heap.size B es) (m63 : es.length ≤ maxLen) (hew : EdsWf es) (hca : a.length ≤ ca) :
    Calls Try.prog 12 #[.slice A a.length ca, .slice B es.length cb] w fun e w' => e = .returned (.bool true) ∧ Below w.heap.size w w' := by
  obtain ⟨na, hna⟩ : ∃ n, Hid (n = a.length) := ⟨_, rfl⟩
  obtain ⟨m, hm⟩ : ∃ n, Hid (n = es.length) := ⟨_, rfl⟩
  have G1 := fun W (hW : Below w.heap.size w W) => Lib.hid (by have h := great_any a A ca W (slw ha hW) h63 hwa; rw [← hna.out] at h; exact h)
  have G2 := fun W (hW : Below w.heap.size w W) => Lib.hid (by have h := greatE_any es B cb W (slw he hW) m63 hew; rw [← hm.out] at h; exact h)
  rw [← hna.out] at h63 hca ⊢
  rw [← hm.out] at m63 ⊢
  have HA := Lib.hid (And.intro ha hwa)
  have HE := Lib.hid (And.intro he hew)
  have HAw := fun W => Lib.hid (awake_any W)
  clear ha hwa he hew
  cases g1 : greatFrom 0 0 a with
  | true =>
    simp only [g1] at G1
    clear g1
    go_enter Try.func12, Try.ntmps12
    go_wp2_with fail
    refine ((HAw _).out).mono ?_; rintro e w1 ⟨rfl, hb1⟩
    have HB1 := Lib.hid hb1
    clear hb1
    go_wp2_with fail
    refine ((G1 _ HB1.out).out).mono ?_; rintro e w' ⟨rfl, rfl⟩
    go_wp2
    go_ret
    exact ⟨rfl, HB1.out⟩
  | false =>
    have hl200 := great_le g1
    simp only [g1] at G1
    clear g1
    cases g2 : greatE 0 0 es with
    | true =>
      simp only [g2] at G2
      clear g2
      go_enter Try.func12, Try.ntmps12
      go_wp2_with fail
      refine ((HAw _).out).mono ?_; rintro e w1 ⟨rfl, hb1⟩
      have HB1 := Lib.hid hb1
      clear hb1
      go_wp2_with fail
      refine ((G1 _ HB1.out).out).mono ?_; rintro e w' ⟨rfl, rfl⟩
      go_wp2_with fail
      refine ((G2 _ HB1.out).out).mono ?_; rintro e w' ⟨rfl, rfl⟩
      go_wp2
      go_ret
      exact ⟨rfl, HB1.out⟩
    | false =>
      have hm200 := greatE_le g2
      simp only [g2] at G2
      clear g2
      rw [← hna.out] at hl200
      rw [← hm.out] at hm200
      have AP := fun W (hW : Below w.heap.size w W) => Lib.hid (apply_any a es A na ca B m cb W (slw HA.out.1 hW) HA.out.2 hna (slw HE.out.1 hW) HE.out.2 hm (by rw [← hna.out]; omega) m63 hca)
      obtain ⟨b, xe, hx⟩ : ∃ b xe, Hid (applyE a es = (b, xe)) := ⟨_, _, rfl⟩
      simp only [hx.out] at AP
      by_cases h0 : xe = 0
      · subst h0
        obtain ⟨ca0, cb0, _, hrun⟩ := apply_parts hx.out
        have hbw : FrsWf b := run_wf (s := (0, [])) HA.out.2 HE.out.2 (fun f hf => nomatch hf) hrun
        have hbl := (FCheck.chk_zero cb0).2.2
        obtain ⟨nb, hnb⟩ : ∃ n, Hid (n = b.length) := ⟨_, rfl⟩
        have HAp : Hid (applyE a (diffL a b) = (b, 0)) := apply_diff ca0 cb0 (by have := hna.out; omega)
        have HWf := Lib.hid (diff_wf (a := a) (b := b) (by have := hna.out; omega) hbl hbw)
        have hfew := few_le hx.out
        have HBw := Lib.hid hbw
        rw [← hnb.out] at hbl
        have E3 : Hid (diffE a b = (diffL a b, 0)) := by rw [Hid, diffE, if_neg (by simp [ca0, cb0])]
        obtain ⟨d, hd⟩ : ∃ d, Hid (d = (diffL a b).length) := ⟨_, rfl⟩
        obtain ⟨u, hu⟩ : ∃ u, Hid (putsE (diffL a b) = u) := ⟨_, rfl⟩
        obtain ⟨v, hv⟩ : ∃ v, Hid (putsE es = v) := ⟨_, rfl⟩
        rw [hu.out, hv.out] at hfew
        have hdl := len_diff a b
        rw [← hd.out, ← hna.out, ← hnb.out] at hdl
        have t1 : decide (u ≤ v) = true := decide_eq_true hfew
        have t2 : (u : Int) ≤ (v : Int) := by omega
        have P2 := fun W (hW : Below w.heap.size w W) => Lib.hid (by have h := EdB.puts_any es B cb W (slw HE.out.1 hW) (by rw [← hm.out]; exact m63); rw [← hm.out, hv.out] at h; exact h)
        clear ca0 cb0 hrun hbw
        go_enter Try.func12, Try.ntmps12
        go_wp2_with fail
        refine ((HAw _).out).mono ?_; rintro e w1 ⟨rfl, hb1⟩
        have HB1 := Lib.hid hb1
        clear hb1
        go_wp2_with fail
        refine ((G1 _ HB1.out).out).mono ?_; rintro e w' ⟨rfl, rfl⟩
        go_wp2_with fail
        refine ((G2 _ HB1.out).out).mono ?_; rintro e w' ⟨rfl, rfl⟩
        go_wp2_with fail
        refine ((AP _ HB1.out).out).mono ?_; rintro e w4 ⟨A4, n4, c4, rfl, ho4, _, hb4⟩
        have hn4 : n4 = b.length := OwnA.len ho4
        obtain rfl : n4 = nb := by rw [hnb.out]; exact hn4
        have HB4 := Lib.hid (ext_under HB1.out (Nat.le_refl _) hb4)
        have HS4 := Lib.hid (ho4.sl Fr.cells_len)
        have D1 := Lib.hid (diff_any a b A A4 na ca n4 c4 w4 (slw HA.out.1 HB4.out) HA.out.2 hna HS4.out HBw.out hn4)
        rw [E3.out] at D1
        clear hb4 ho4 hn4
        go_wp2_with fail
        refine (D1.out).mono ?_; rintro e w5 ⟨A5, n5, c5, rfl, ho5, _, hb5⟩
        have hn5 : n5 = (diffL a b).length := OwnA.len ho5
        obtain rfl : n5 = d := by rw [hd.out]; exact hn5
        have HB5 := Lib.hid (ext_under HB4.out (Nat.le_refl _) hb5)
        have HS5 := Lib.hid (slw HS4.out hb5)
        have HE5 := Lib.hid (ho5.sl Ed.cells_len)
        have AQ := Lib.hid (apply_any a (diffL a b) A na ca A5 n5 c5 w5 (slw HA.out.1 HB5.out) HA.out.2 hna HE5.out HWf.out hn5 (by rw [← hna.out]; omega) (by unfold maxLen; omega) hca)
        rw [HAp.out] at AQ
        clear hb5 ho5 hn5 HS4 D1
        go_wp2_with fail
        refine (AQ.out).mono ?_; rintro e w6 ⟨A6, n6, c6, rfl, ho6, _, hb6⟩
        have hn6 : n6 = b.length := OwnA.len ho6
        obtain rfl : n6 = n4 := by rw [hnb.out]; exact hn6
        have HB6 := Lib.hid (ext_under HB5.out (Nat.le_refl _) hb6)
        have HE6 := Lib.hid (slw HE5.out hb6)
        have SM : Hid (Calls Try.prog 57 #[.slice A4 n6 c4, .slice A6 n6 c6] w6 fun e w' => e = .returned (.bool true) ∧ Below w6.heap.size w6 w') := by
          have h := same_any b b A4 A6 c4 c6 w6 (slw HS5.out hb6) (ho6.sl Fr.cells_len) (by rw [← hnb.out]; unfold maxLen; omega) (by rw [← hnb.out]; unfold maxLen; omega)
          rw [eqL_self, ← hnb.out] at h
          exact h
        clear hb6 ho6 hn6 AQ HE5 HS5
        go_wp2_with fail
        refine (SM.out).mono ?_; rintro e w7 ⟨rfl, hb7⟩
        have HB7 := Lib.hid (ext_under HB6.out (Nat.le_refl _) hb7)
        have P1 := Lib.hid (EdB.puts_any (diffL a b) A5 c5 w7 (slw HE6.out hb7) (by rw [← hd.out]; unfold maxLen; omega))
        rw [← hd.out, hu.out] at P1
        clear hb7 HE6
        go_wp2_with fail
        refine (P1.out).mono ?_; rintro e w8 ⟨rfl, hb8⟩
        have HB8 := Lib.hid (ext_under HB7.out (Nat.le_refl _) hb8)
        clear hb8 P1
        go_wp2_with fail
        refine ((P2 _ HB8.out).out).mono ?_; rintro e w9 ⟨rfl, hb9⟩
        have HB9 := Lib.hid (ext_under HB8.out (Nat.le_refl _) hb9)
        clear hb9
        go_wp2
        go_ret
        exact ⟨rfl, HB9.out⟩
      · have h1 : (xe == 0) = false := by simpa using h0
        have h2 : (xe != 0) = true := by simp [h0]
        clear h0
        go_enter Try.func12, Try.ntmps12
        go_wp2_with fail
        refine ((HAw _).out).mono ?_; rintro e w1 ⟨rfl, hb1⟩
        have HB1 := Lib.hid hb1
        clear hb1
        go_wp2_with fail
        refine ((G1 _ HB1.out).out).mono ?_; rintro e w' ⟨rfl, rfl⟩
        go_wp2_with fail
        refine ((G2 _ HB1.out).out).mono ?_; rintro e w' ⟨rfl, rfl⟩
        go_wp2_with fail
        refine ((AP _ HB1.out).out).mono ?_; rintro e w4 ⟨A4, n4, c4, rfl, ho4, _, hb4⟩
        have HB4 := Lib.hid (ext_under HB1.out (Nat.le_refl _) hb4)
        clear hb4 ho4
        go_wp2
        go_ret
        exact ⟨rfl, HB4.out⟩
set_option maxRecDepth 100000 in
theorem lifted (os : Os) (started : os.Started) (H : Type) (enc : TypeId × Value → H) :
    ReturnsInHanded {} Try.checked os 12 .any (Rows.diffFewSpec.pre6 enc Try.prog Try.f12 Rows.diffFewRow.domain false) (Rows.diffFewSpec.post enc Try.prog Try.f12 false true false false) := by
  refine returnsInHanded_of_change_sized (C := Try.checked) own started (by kernel_rfl) Try.func12
    (ChangeSpec.witness6 (enc := enc) (C := Try.checked) false ⟨#[], #[.slice none 0 0, .slice none 0 0], []⟩ 8 (by kernel_rfl) (by kernel_rfl) (by kernel_rfl) (by kernel_rfl)) ?_
  intro W base args ds gs before hval0 hW hcnd hsz0 _
  have hval : ∀ (j : Nat) t v, Try.f12.params[j]? = some t → args[j]? = some v → Value.okWide Try.prog W .any base t v := hval0
  have hW' := hW
  obtain ⟨p, q, hA0, hV, rfl, hfz, hnd⟩ := hW
  have hA : DataW.TrodAll enc Try.prog W 0 (fun _ => true) true Try.f12.params.toList args.toList ds p := hA0
  have hsz : (DataW.weightsEach Try.prog (Try.f12.params.toList ++ []) (ds ++ gs)).all (· ≤ reachBytes) = true := hsz0
  rw [Try.params12] at hA hval hsz
  have hAll := hA
  obtain ⟨v0, vs0, d0, ds0, p0, q0, hargs, rfl, rfl, h0, r0⟩ := trodAll_cons hA
  obtain ⟨v1, vs1, d1, ds1, p1, q1, rfl, rfl, rfl, h1, r1⟩ := trodAll_cons r0
  obtain ⟨rfl, rfl, rfl⟩ := trodAll_nil r1
  obtain rfl : args = #[v0, v1] := by cases args; simp_all
  obtain ⟨rfl, rfl⟩ := trodVars_none hV
  obtain ⟨a_A, a, a_cap, rfl, a_sl, a_ok, a_le, a_max, a_reach, a_nil⟩ := open_sl Try.underlying59 (c := 8) (by kernel_rfl) (by decide) opens_fr (hval 0 59 v0 rfl rfl) h0 (light_of hsz (j := 0) rfl rfl)
  obtain ⟨es_A, es, es_cap, rfl, es_sl, es_ok, es_le, es_max, es_reach, es_nil⟩ := open_sl Try.underlying60 (c := 12) (by kernel_rfl) (by decide) opens_ed (hval 1 60 v1 rfl rfl) h1 (light_of hsz (j := 1) rfl rfl)
  refine (walk a es a_A a_cap es_A es_cap W a_sl (Nat.le_trans a_le a_max) a_ok es_sl (Nat.le_trans es_le es_max) es_ok a_le).mono fun e W' ⟨he, bel⟩ => ?_
  subst he
  exact ⟨_, rfl, _, _, _, [], _, [], hW', trodAll_mk1 (shut_bool Try.underlying4 _), keep_args laidOut bel (by kernel_rfl) hAll, rfl, bel.frame _, fun h => by cases h⟩

theorem over : Rows.diffFewRow.holds Try.pinned (OpenSpec.ofChange Rows.diffFewSpec) :=
  OpenClaim.holds_of_wide 12 Try.f12 rfl rfl rfl rfl rfl rfl rfl ⟨rfl, rfl, rfl, rfl, rfl⟩ rfl rfl rfl rfl rfl (by kernel_rfl) Try.func12 (by kernel_rfl)
    (of_decide_eq_true (by kernel_rfl)) (by unfold Func.isWrapper; first | (rw [if_pos (by decide +kernel)]; kernel_rfl) | (rw [if_neg (by decide +kernel)]; exact ⟨rfl, rfl⟩))
    (fun os started H enc _ => lifted os started H enc)

theorem proved : Rows.DiffFewSaid := over
#print axioms proved
end Go.Proofs.Ytiljpbncfofnhaa.lawFew
