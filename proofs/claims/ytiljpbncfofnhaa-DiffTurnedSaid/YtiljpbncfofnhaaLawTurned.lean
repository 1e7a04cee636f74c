/- DiffTurned: from the new tree to the old one just as many stay; what stays rises in both and is of one key; what does not is put anew: whatever the input, the law returns true and leaves its arguments as they were. -/
import Derived.Test.YtiljpbncfofnhaaDfS
import Derived.Test.YtiljpbncfofnhaaDfQ
import Derived.Test.YtiljpbncfofnhaaOpen
import Derived.Test.YtiljpbncfofnhaaLift
import Derived.Outline
import Derived.BigQuiet
import Derived.Deep.QuietTactic
import Derived.Deep.RegionWith
import Derived.Deep.RegionHeld3
import Derived.Deep.DrawnRows
import Derived.Deep.LoopGhost
import Derived.Deep.DeepCutAuto
import Derived.Laws.EntriesVeiled
import Derived.BigQuiet
namespace Go.Proofs.Ytiljpbncfofnhaa.lawTurned
open Go.RowKit Go.ChangeShapes Go.WideShapes Go.ChangeAt
set_option linter.unusedVariables false
set_option linter.unusedSimpArgs false
attribute [local go_sem ↓] Go.wp_at_zero Go.wp_at_succ
open FragA FragB MayA Tree FCheck EdB EdC EdF Dif
set_option maxRecDepth 100000 in
set_option maxHeartbeats 8000000 in
theorem walk (a b : List Fr) (A : Option Addr) (ca : Nat) (B : Option Addr) (cb : Nat) (w : World) (ha : FrSl w w.heap.size A a) (h63 : a.length ≤ maxLen) (hwa : FrsWf a) (hb : FrSl w w.heap.size B b) (m63 : b.length ≤ maxLen) (hwb : FrsWf b) :
    Calls Try.prog 9 #[.slice A a.length ca, .slice B b.length cb] w fun e w' => e = .returned (.bool true) ∧ Below w.heap.size w w' := by
  obtain ⟨na, hna⟩ : ∃ n, Hid (n = a.length) := ⟨_, rfl⟩
  obtain ⟨nb, hnb⟩ : ∃ n, Hid (n = b.length) := ⟨_, rfl⟩
  rw [← hna.out] at h63 ⊢
  rw [← hnb.out] at m63 ⊢
  have HA := Lib.hid (And.intro ha hwa)
  have HBs := Lib.hid (And.intro hb hwb)
  have HAw := fun W => Lib.hid (awake_any W)
  obtain ⟨g1, hg1⟩ : ∃ g, Hid (lawGreat a b = g) := ⟨_, rfl⟩
  have G1 := fun W (hW : Below w.heap.size w W) => Lib.hid (by have h := lawgreat_any a b A B na ca nb cb W (slw ha hW) hwa hna (slw hb hW) hwb hnb h63 m63; rw [hg1.out] at h; exact h)
  clear ha hwa hb hwb
  cases g1 with
  | true =>
    go_enter Try.func9, Try.ntmps9
    go_wp2_with fail
    refine ((HAw _).out).mono ?_; rintro e w1 ⟨rfl, hb1⟩
    have HB1 := Lib.hid hb1
    clear hb1
    go_wp2_with fail
    refine ((G1 _ HB1.out).out).mono ?_; rintro e w2 ⟨rfl, hb2⟩
    have HB2 := Lib.hid (ext_under HB1.out (Nat.le_refl _) hb2)
    clear hb2
    go_wp2
    go_ret
    exact ⟨rfl, HB2.out⟩
  | false =>
    obtain ⟨la, lb, ca0, cb0⟩ := lawgreat_no hg1.out
    rw [← hna.out] at la
    rw [← hnb.out] at lb
    have HT : Hid ((stayL a b).length = (stayL b a).length) := stay_turn (keys_of_chk ca0) (keys_of_chk cb0)
    have E1 : Hid (stayE a b = (stayL a b, 0)) := by rw [Hid, stayE, if_neg (by simp [ca0, cb0])]
    have E2 : Hid (stayE b a = (stayL b a, 0)) := by rw [Hid, stayE, if_neg (by simp [ca0, cb0])]
    have E3 : Hid (diffE a b = (diffL a b, 0)) := by rw [Hid, diffE, if_neg (by simp [ca0, cb0])]
    obtain ⟨p, hp⟩ : ∃ p, Hid (p = (stayL a b).length) := ⟨_, rfl⟩
    obtain ⟨d, hd⟩ : ∃ d, Hid (d = (diffL a b).length) := ⟨_, rfl⟩
    obtain ⟨u, hu⟩ : ∃ u, Hid (putsE (diffL a b) = u) := ⟨_, rfl⟩
    have hpl := stayL_len a b
    have hul := puts_diff a b
    have hdl := len_diff a b
    rw [← hp.out, ← hnb.out] at hpl
    rw [← hp.out, ← hnb.out, hu.out] at hul
    rw [← hd.out, ← hna.out, ← hnb.out] at hdl
    have S1 := fun W (hW : Below w.heap.size w W) => Lib.hid (by have h := stay_any a b A B na ca nb cb W (slw HA.out.1 hW) HA.out.2 hna (slw HBs.out.1 hW) HBs.out.2 hnb; rw [E1.out] at h; exact h)
    have S2 := fun W (hW : Below w.heap.size w W) => Lib.hid (by have h := stay_any b a B A nb cb na ca W (slw HBs.out.1 hW) HBs.out.2 hnb (slw HA.out.1 hW) HA.out.2 hna; rw [E2.out] at h; exact h)
    have D1 := fun W (hW : Below w.heap.size w W) => Lib.hid (by have h := diff_any a b A B na ca nb cb W (slw HA.out.1 hW) HA.out.2 hna (slw HBs.out.1 hW) HBs.out.2 hnb; rw [E3.out] at h; exact h)
    have w1 : IntKind.i64.wrap ((nb : Int) - (p : Int)) = (u : Int) := by rw [IntWalk.i64_in _ (by omega)]; omega
    clear ca0 cb0
    go_enter Try.func9, Try.ntmps9
    go_wp2_with fail
    refine ((HAw _).out).mono ?_; rintro e w1 ⟨rfl, hb1⟩
    have HB1 := Lib.hid hb1
    clear hb1
    go_wp2_with fail
    refine ((G1 _ HB1.out).out).mono ?_; rintro e w2 ⟨rfl, hb2⟩
    have HB2 := Lib.hid (ext_under HB1.out (Nat.le_refl _) hb2)
    clear hb2
    go_wp2_with fail
    refine ((S1 _ HB2.out).out).mono ?_; rintro e w5 ⟨v5, rfl, ho5, _, hb5⟩
    obtain ⟨A5, n5, c5, rfl, hn5, _, _, _⟩ := ho5.form
    obtain rfl : n5 = p := by rw [hp.out]; exact hn5.out
    have HB5 := Lib.hid (ext_under HB2.out (Nat.le_refl _) hb5)
    have HS5 := Lib.hid (ho5.sl encP_len)
    clear hb5 ho5 hn5
    go_wp2_with fail
    refine ((S2 _ HB5.out).out).mono ?_; rintro e w6 ⟨v6, rfl, ho6, _, hb6⟩
    obtain ⟨A6, n6, c6, rfl, hn6, _, _, _⟩ := ho6.form
    obtain rfl : n6 = n5 := by rw [hp.out, HT.out]; exact hn6.out
    have HB6 := Lib.hid (ext_under HB5.out (Nat.le_refl _) hb6)
    have HS6 := Lib.hid (slw HS5.out hb6)
    clear hb6 ho6 hn6
    go_wp2_with fail
    refine ((D1 _ HB6.out).out).mono ?_; rintro e w7 ⟨A7, n7, c7, rfl, ho7, _, hb7⟩
    have hn7 : n7 = (diffL a b).length := OwnA.len ho7
    obtain rfl : n7 = d := by rw [hd.out]; exact hn7
    have HB7 := Lib.hid (ext_under HB6.out (Nat.le_refl _) hb7)
    have HS7 := Lib.hid (slw HS6.out hb7)
    have P7 := Lib.hid (EdB.puts_any (diffL a b) A7 c7 w7 (ho7.sl Ed.cells_len) (by rw [← hn7]; unfold maxLen; omega))
    rw [← hn7, hu.out] at P7
    clear hb7 ho7 hn7 HS5 HS6
    go_wp2_with fail
    refine (P7.out).mono ?_; rintro e w8 ⟨rfl, hb8⟩
    have HB8 := Lib.hid (ext_under HB7.out (Nat.le_refl _) hb8)
    have HS8 := Lib.hid (slw HS7.out hb8)
    have t1 : ((u : Int) != (u : Int)) = false := by simp
    have t2 : ((n6 : Int) != (n6 : Int)) = false := by simp
    clear hb8 HS7 P7
    go_wp2
    go_loopg [11] n6 (fun gk v11 wr => ∃ k : Nat, n6 ≤ k + gk ∧ k ≤ n6 ∧ v11 = .int .i64 (k : Int) ∧ Hid (Below w8.heap.size w8 wr))
    case atStart => exact ⟨0, by omega, by omega, rfl, Below.refl _ _⟩
    case round =>
      obtain ⟨k, hgk, hk, rfl, hB⟩ := hrel
      by_cases hlt : k < n6
      · obtain ⟨x, hx⟩ : ∃ x, (stayL a b)[k]? = some x := ⟨_, List.getElem?_eq_getElem (by rw [← hp.out]; exact hlt)⟩
        obtain ⟨i, j⟩ := x
        obtain ⟨f, g, hf, hg, hc, _⟩ := stayL_mem (List.mem_of_getElem? hx)
        obtain ⟨e1, e2⟩ := canB_key hc
        have hi := (List.getElem?_eq_some_iff.1 hf).1
        have hj := (List.getElem?_eq_some_iff.1 hg).1
        rw [← hna.out] at hi
        rw [← hnb.out] at hj
        simp only at hf hg hi hj
        have HBr := Lib.hid (ext_under HB8.out (Nat.le_refl _) hB.out)
        obtain ⟨pg, po, rfl, hpg, y0, y1⟩ := PSl.at_ (slw HS8.out hB.out) hx
        obtain ⟨ab, ao, rfl, hab, z0, z1, -, -, -, -, -, -⟩ := FrSl.at_ (slw HA.out.1 HBr.out) hf
        obtain ⟨bb, bo, rfl, hbb, x0, x1, -, -, -, -, -, -⟩ := FrSl.at_ (slw HBs.out.1 HBr.out) hg
        rw [← e1] at x0
        rw [← e2] at x1
        simp only at y0 y1
        have c1 : (0 : Int) ≤ (k : Int) := Int.natCast_nonneg _
        have c2 : (k : Int) < (n6 : Int) := by omega
        have c3 : (0 : Int) ≤ (i : Int) := Int.natCast_nonneg _
        have c4 : (i : Int) < (na : Int) := by omega
        have c5' : (0 : Int) ≤ (j : Int) := Int.natCast_nonneg _
        have c6' : (j : Int) < (nb : Int) := by omega
        have d1 : decide (na ≤ i) = false := decide_eq_false (by omega)
        have d2 : decide (nb ≤ j) = false := decide_eq_false (by omega)
        have HX := Lib.hid hx
        have hBn : ∀ m, Hid (Below w8.heap.size w8 (wr.drewN m)) := fun m => bdrewN hB.out m
        clear hf hg hc e1 e2 hx
        rcases k with _ | k'
        · have d3 : decide (0 < 0) = false := rfl
          simp only [Nat.zero_mul, Nat.add_zero] at y0 y1
          have d4 : (0 : Int) < (n6 : Int) := by omega
          have d5 : decide (0 < n6) = true := decide_eq_true (by omega)
          go_wp2_with fail
          go_quiet (fail)
          go_wp2_with fail
          go_quiet (fail)
          go_wp2
          go_roundg (gk - 1)
          case measure => omega
          case rel => exact ⟨1, by omega, by omega, by go_num, hBn _⟩
        · obtain ⟨x', hx'⟩ : ∃ x', (stayL a b)[k']? = some x' := ⟨_, List.getElem?_eq_getElem (by rw [← hp.out]; omega)⟩
          obtain ⟨i', j'⟩ := x'
          have hr := List.pairwise_iff_getElem.1 (stayL_rise a b) k' (k' + 1) (List.getElem?_eq_some_iff.1 hx').1 (List.getElem?_eq_some_iff.1 HX.out).1 (by omega)
          rw [(List.getElem?_eq_some_iff.1 hx').2, (List.getElem?_eq_some_iff.1 HX.out).2] at hr
          simp only at hr
          obtain ⟨pg2, po2, hA2, hpg2, v0, v1⟩ := PSl.at_ (slw HS8.out hB.out) hx'
          injection hA2 with hA2
          injection hA2 with e1 e2 e3
          subst e1
          subst e2
          simp only at v0 v1
          have d3 : decide (0 < k' + 1) = true := decide_eq_true (by omega)
          have d4 : (0 : Int) < ((k' + 1 : Nat) : Int) := by omega
          have d5 : IntKind.i64.wrap (((k' + 1 : Nat) : Int) - 1) = (k' : Int) := by rw [IntWalk.i64_in _ (by omega)]; omega
          have d6 : (0 : Int) ≤ (k' : Int) := Int.natCast_nonneg _
          have d7 : (k' : Int) < (n6 : Int) := by omega
          have d8 : decide (i ≤ i') = false := decide_eq_false (by omega)
          have d9 : decide (j ≤ j') = false := decide_eq_false (by omega)
          clear hr hx' e3
          go_wp2_with fail
          go_quiet (fail)
          go_wp2_with fail
          go_quiet (fail)
          go_wp2
          go_roundg (gk - 1)
          case measure => omega
          case rel => exact ⟨k' + 2, by omega, by omega, by go_num, hBn _⟩
      · have HN := Lib.hid (ext_under HB8.out (Nat.le_refl _) hB.out)
        go_wp2
        go_ret
        exact ⟨rfl, HN.out⟩
set_option maxRecDepth 100000 in
theorem lifted (os : Os) (started : os.Started) (H : Type) (enc : TypeId × Value → H) :
    ReturnsInHanded {} Try.checked os 9 .any (Rows.diffTurnedSpec.pre6 enc Try.prog Try.f9 Rows.diffTurnedRow.domain false) (Rows.diffTurnedSpec.post enc Try.prog Try.f9 false true false false) := by
  refine returnsInHanded_of_change_sized (C := Try.checked) own started (by kernel_rfl) Try.func9
    (ChangeSpec.witness6 (enc := enc) (C := Try.checked) false ⟨#[], #[.slice none 0 0, .slice none 0 0], []⟩ 8 (by kernel_rfl) (by kernel_rfl) (by kernel_rfl) (by kernel_rfl)) ?_
  intro W base args ds gs before hval0 hW hcnd hsz0 _
  have hval : ∀ (j : Nat) t v, Try.f9.params[j]? = some t → args[j]? = some v → Value.okWide Try.prog W .any base t v := hval0
  have hW' := hW
  obtain ⟨p, q, hA0, hV, rfl, hfz, hnd⟩ := hW
  have hA : DataW.TrodAll enc Try.prog W 0 (fun _ => true) true Try.f9.params.toList args.toList ds p := hA0
  have hsz : (DataW.weightsEach Try.prog (Try.f9.params.toList ++ []) (ds ++ gs)).all (· ≤ reachBytes) = true := hsz0
  rw [Try.params9] at hA hval hsz
  have hAll := hA
  obtain ⟨v0, vs0, d0, ds0, p0, q0, hargs, rfl, rfl, h0, r0⟩ := trodAll_cons hA
  obtain ⟨v1, vs1, d1, ds1, p1, q1, rfl, rfl, rfl, h1, r1⟩ := trodAll_cons r0
  obtain ⟨rfl, rfl, rfl⟩ := trodAll_nil r1
  obtain rfl : args = #[v0, v1] := by cases args; simp_all
  obtain ⟨rfl, rfl⟩ := trodVars_none hV
  obtain ⟨a_A, a, a_cap, rfl, a_sl, a_ok, a_le, a_max, a_reach, a_nil⟩ := open_sl Try.underlying59 (c := 8) (by kernel_rfl) (by decide) opens_fr (hval 0 59 v0 rfl rfl) h0 (light_of hsz (j := 0) rfl rfl)
  obtain ⟨b_A, b, b_cap, rfl, b_sl, b_ok, b_le, b_max, b_reach, b_nil⟩ := open_sl Try.underlying59 (c := 8) (by kernel_rfl) (by decide) opens_fr (hval 1 59 v1 rfl rfl) h1 (light_of hsz (j := 1) rfl rfl)
  refine (walk a b a_A a_cap b_A b_cap W a_sl (Nat.le_trans a_le a_max) a_ok b_sl (Nat.le_trans b_le b_max) b_ok).mono fun e W' ⟨he, bel⟩ => ?_
  subst he
  exact ⟨_, rfl, _, _, _, [], _, [], hW', trodAll_mk1 (shut_bool Try.underlying4 _), keep_args laidOut bel (by kernel_rfl) hAll, rfl, bel.frame _, fun h => by cases h⟩

theorem over : Rows.diffTurnedRow.holds Try.pinned (OpenSpec.ofChange Rows.diffTurnedSpec) :=
  OpenClaim.holds_of_wide 9 Try.f9 rfl rfl rfl rfl rfl rfl rfl ⟨rfl, rfl, rfl, rfl, rfl⟩ rfl rfl rfl rfl rfl (by kernel_rfl) Try.func9 (by kernel_rfl)
    (of_decide_eq_true (by kernel_rfl)) (by unfold Func.isWrapper; first | (rw [if_pos (by decide +kernel)]; kernel_rfl) | (rw [if_neg (by decide +kernel)]; exact ⟨rfl, rfl⟩))
    (fun os started H enc _ => lifted os started H enc)

theorem proved : Rows.DiffTurnedSaid := over
#print axioms proved
end Go.Proofs.Ytiljpbncfofnhaa.lawTurned
