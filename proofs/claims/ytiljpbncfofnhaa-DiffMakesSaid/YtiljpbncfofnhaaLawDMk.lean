/- DiffMakes: the difference, applied to the old tree, makes the new one; of a tree and itself it keeps all; there are no more edits than fragments in both: whatever the input, the law returns true and leaves its arguments as they were. -/
import Derived.Test.YtiljpbncfofnhaaDfS
import Derived.Test.YtiljpbncfofnhaaDfU
import Derived.Test.YtiljpbncfofnhaaEdJ
import Derived.Test.YtiljpbncfofnhaaOpen
import Derived.Test.YtiljpbncfofnhaaLift
import Derived.Outline
import Derived.BigQuiet
import Derived.Deep.QuietTactic
import Derived.Deep.RegionWith
import Derived.Deep.RegionHeld3
import Derived.Deep.DrawnRows
import Derived.Deep.LoopGhost
import Derived.Deep.DeepCutAuto
import Derived.Laws.EntriesVeiled
import Derived.BigQuiet
namespace Go.Proofs.Ytiljpbncfofnhaa.lawDMk
open Go.RowKit Go.ChangeShapes Go.WideShapes Go.ChangeAt
set_option linter.unusedVariables false
set_option linter.unusedSimpArgs false
attribute [local go_sem ↓] Go.wp_at_zero Go.wp_at_succ
open FragA FragB MayA Tree FCheck EdB EdC EdF Dif
set_option maxRecDepth 100000 in
set_option maxHeartbeats 8000000 in
theorem walk (a b : List Fr) (A : Option Addr) (ca : Nat) (B : Option Addr) (cb : Nat) (w : World) (ha : FrSl w w.heap.size A a) (h63 : a.length ≤ maxLen) (hwa : FrsWf a) (hb : FrSl w w.heap.size B b) (m63 : b.length ≤ maxLen) (hwb : FrsWf b) (hca : a.length ≤ ca) :
    Calls Try.prog 11 #[.slice A a.length ca, .slice B b.length cb] w fun e w' => e = .returned (.bool true) ∧ Below w.heap.size w w' := by
  obtain ⟨na, hna⟩ : ∃ n, Hid (n = a.length) := ⟨_, rfl⟩
  obtain ⟨nb, hnb⟩ : ∃ n, Hid (n = b.length) := ⟨_, rfl⟩
  rw [← hna.out] at h63 hca ⊢
  rw [← hnb.out] at m63 ⊢
  have HA := Lib.hid (And.intro ha hwa)
  have HBs := Lib.hid (And.intro hb hwb)
  have HAw := fun W => Lib.hid (awake_any W)
  obtain ⟨g1, hg1⟩ : ∃ g, Hid (lawGreat a b = g) := ⟨_, rfl⟩
  have G1 := fun W (hW : Below w.heap.size w W) => Lib.hid (by have h := lawgreat_any a b A B na ca nb cb W (slw ha hW) hwa hna (slw hb hW) hwb hnb h63 m63; rw [hg1.out] at h; exact h)
  clear ha hwa hb hwb
  cases g1 with
  | true =>
    go_enter Try.func11, Try.ntmps11
    go_wp2_with fail
    refine ((HAw _).out).mono ?_; rintro e w1 ⟨rfl, hb1⟩
    have HB1 := Lib.hid hb1
    clear hb1
    go_wp2_with fail
    refine ((G1 _ HB1.out).out).mono ?_; rintro e w2 ⟨rfl, hb2⟩
    have HB2 := Lib.hid (ext_under HB1.out (Nat.le_refl _) hb2)
    clear hb2
    go_wp2
    go_ret
    exact ⟨rfl, HB2.out⟩
  | false =>
    obtain ⟨la, lb, ca0, cb0⟩ := lawgreat_no hg1.out
    have HAp : Hid (applyE a (diffL a b) = (b, 0)) := apply_diff ca0 cb0 (by omega)
    have HSf : Hid (diffL a a = [⟨0, (na : Int), 0, 0, ⟨0, 0, 0, 0, 0, 0, 0, ⟨#[]⟩⟩⟩]) := by rw [Hid, diff_self ca0, ← hna.out]; rfl
    have HWf := Lib.hid (diff_wf (a := a) (b := b) (by omega) (by omega) HBs.out.2)
    rw [← hna.out] at la
    rw [← hnb.out] at lb
    have E3 : Hid (diffE a b = (diffL a b, 0)) := by rw [Hid, diffE, if_neg (by simp [ca0, cb0])]
    have E4 : Hid (diffE a a = (diffL a a, 0)) := by rw [Hid, diffE, if_neg (by simp [ca0])]
    obtain ⟨d, hd⟩ : ∃ d, Hid (d = (diffL a b).length) := ⟨_, rfl⟩
    have hdl := len_diff a b
    rw [← hd.out, ← hna.out, ← hnb.out] at hdl
    have D1 := fun W (hW : Below w.heap.size w W) => Lib.hid (by have h := diff_any a b A B na ca nb cb W (slw HA.out.1 hW) HA.out.2 hna (slw HBs.out.1 hW) HBs.out.2 hnb; rw [E3.out] at h; exact h)
    have D2 := fun W (hW : Below w.heap.size w W) => Lib.hid (by have h := diff_any a a A A na ca na ca W (slw HA.out.1 hW) HA.out.2 hna (slw HA.out.1 hW) HA.out.2 hna; rw [E4.out, HSf.out] at h; exact h)
    have w1 : IntKind.i64.wrap ((na : Int) + (nb : Int)) = ((na + nb : Nat) : Int) := by rw [IntWalk.i64_in _ (by omega)]; omega
    have t1 : decide (d ≤ na + nb) = true := decide_eq_true hdl
    have t2 : (d : Int) ≤ (na : Int) + (nb : Int) := by omega
    clear ca0 cb0
    go_enter Try.func11, Try.ntmps11
    go_wp2_with fail
    refine ((HAw _).out).mono ?_; rintro e w1 ⟨rfl, hb1⟩
    have HB1 := Lib.hid hb1
    clear hb1
    go_wp2_with fail
    refine ((G1 _ HB1.out).out).mono ?_; rintro e w2 ⟨rfl, hb2⟩
    have HB2 := Lib.hid (ext_under HB1.out (Nat.le_refl _) hb2)
    clear hb2
    go_wp2_with fail
    refine ((D1 _ HB2.out).out).mono ?_; rintro e w5 ⟨A5, n5, c5, rfl, ho5, _, hb5⟩
    have hn5 : n5 = (diffL a b).length := OwnA.len ho5
    obtain rfl : n5 = d := by rw [hd.out]; exact hn5
    have HB5 := Lib.hid (ext_under HB2.out (Nat.le_refl _) hb5)
    have AP := Lib.hid (apply_any a (diffL a b) A na ca A5 n5 c5 w5 (slw HA.out.1 HB5.out) HA.out.2 hna (ho5.sl Ed.cells_len) HWf.out hn5 (by rw [← hna.out]; omega) (by unfold maxLen; omega) hca)
    rw [HAp.out] at AP
    clear hb5 ho5 hn5
    go_wp2_with fail
    refine (AP.out).mono ?_; rintro e w6 ⟨A6, n6, c6, rfl, ho6, _, hb6⟩
    have hn6 : n6 = b.length := OwnA.len ho6
    obtain rfl : n6 = nb := by rw [hnb.out]; exact hn6
    have HB6 := Lib.hid (ext_under HB5.out (Nat.le_refl _) hb6)
    have HS6 := Lib.hid (ho6.sl Fr.cells_len)
    clear hb6 ho6 hn6 AP
    go_wp2_with fail
    refine ((D2 _ HB6.out).out).mono ?_; rintro e w7 ⟨A7, n7, c7, rfl, ho7, _, hb7⟩
    obtain rfl : n7 = 1 := OwnA.len ho7
    have HB7 := Lib.hid (ext_under HB6.out (Nat.le_refl _) hb7)
    have HS7 := Lib.hid (slw HS6.out hb7)
    have HE7 := Lib.hid (ho7.sl Ed.cells_len)
    have SM : Hid (Calls Try.prog 57 #[.slice A6 n6 c6, .slice B n6 cb] w7 fun e w' => e = .returned (.bool true) ∧ Below w7.heap.size w7 w') := by
      have h := same_any b b A6 B c6 cb w7 HS7.out (slw HBs.out.1 HB7.out) (by rw [← hnb.out]; exact m63) (by rw [← hnb.out]; exact m63)
      rw [eqL_self, ← hnb.out] at h
      exact h
    clear hb7 ho7 HS6
    go_wp2_with fail
    refine (SM.out).mono ?_; rintro e w8 ⟨rfl, hb8⟩
    have HB8 := Lib.hid (ext_under HB7.out (Nat.le_refl _) hb8)
    have HE8 := Lib.hid (slw HE7.out hb8)
    have SE : Hid (Calls Try.prog 47 #[.slice A7 1 c7, .slice (some ⟨w8.heap.size, 0, none⟩) 1 1] (w8.alloc (.cells #[.int .u8 0, .int .i64 (na : Int), .int .i64 0, .int .i64 0, .int .i64 0, .int .i64 0, .int .i64 0, .int .i64 0, .int .i64 0, .int .i64 0, .int .i64 0, .string ⟨#[]⟩] 69)) fun e w' => e = .returned (.bool true) ∧ Below w8.heap.size w8 w') := by
      have h2 := flat_lit Ed.cells_len w8 [⟨0, (na : Int), 0, 0, ⟨0, 0, 0, 0, 0, 0, 0, ⟨#[]⟩⟩⟩] 69
      have h := EdB.rsame_any [⟨0, (na : Int), 0, 0, ⟨0, 0, 0, 0, 0, 0, 0, ⟨#[]⟩⟩⟩] [⟨0, (na : Int), 0, 0, ⟨0, 0, 0, 0, 0, 0, 0, ⟨#[]⟩⟩⟩] A7 (some ⟨w8.heap.size, 0, none⟩) c7 1 _ (slw HE8.out (EdF.below_a _ _)) h2 (by simp [maxLen]) (by simp [maxLen])
      rw [eqE_self] at h
      refine h.mono ?_
      rintro e w' ⟨rfl, hb⟩
      exact ⟨rfl, ext_under (EdF.below_a _ _) (Nat.le_refl _) hb⟩
    clear hb8 HE7 SM
    go_wp2_with fail
    refine (SE.out).mono ?_; rintro e w9 ⟨rfl, hb9⟩
    have HB9 := Lib.hid (ext_under HB8.out (Nat.le_refl _) hb9)
    clear hb9
    go_wp2
    go_ret
    exact ⟨rfl, HB9.out⟩
set_option maxRecDepth 100000 in
theorem lifted (os : Os) (started : os.Started) (H : Type) (enc : TypeId × Value → H) :
    ReturnsInHanded {} Try.checked os 11 .any (Rows.diffMakesSpec.pre6 enc Try.prog Try.f11 Rows.diffMakesRow.domain false) (Rows.diffMakesSpec.post enc Try.prog Try.f11 false true false false) := by
  refine returnsInHanded_of_change_sized (C := Try.checked) own started (by kernel_rfl) Try.func11
    (ChangeSpec.witness6 (enc := enc) (C := Try.checked) false ⟨#[], #[.slice none 0 0, .slice none 0 0], []⟩ 8 (by kernel_rfl) (by kernel_rfl) (by kernel_rfl) (by kernel_rfl)) ?_
  intro W base args ds gs before hval0 hW hcnd hsz0 _
  have hval : ∀ (j : Nat) t v, Try.f11.params[j]? = some t → args[j]? = some v → Value.okWide Try.prog W .any base t v := hval0
  have hW' := hW
  obtain ⟨p, q, hA0, hV, rfl, hfz, hnd⟩ := hW
  have hA : DataW.TrodAll enc Try.prog W 0 (fun _ => true) true Try.f11.params.toList args.toList ds p := hA0
  have hsz : (DataW.weightsEach Try.prog (Try.f11.params.toList ++ []) (ds ++ gs)).all (· ≤ reachBytes) = true := hsz0
  rw [Try.params11] at hA hval hsz
  have hAll := hA
  obtain ⟨v0, vs0, d0, ds0, p0, q0, hargs, rfl, rfl, h0, r0⟩ := trodAll_cons hA
  obtain ⟨v1, vs1, d1, ds1, p1, q1, rfl, rfl, rfl, h1, r1⟩ := trodAll_cons r0
  obtain ⟨rfl, rfl, rfl⟩ := trodAll_nil r1
  obtain rfl : args = #[v0, v1] := by cases args; simp_all
  obtain ⟨rfl, rfl⟩ := trodVars_none hV
  obtain ⟨a_A, a, a_cap, rfl, a_sl, a_ok, a_le, a_max, a_reach, a_nil⟩ := open_sl Try.underlying59 (c := 8) (by kernel_rfl) (by decide) opens_fr (hval 0 59 v0 rfl rfl) h0 (light_of hsz (j := 0) rfl rfl)
  obtain ⟨b_A, b, b_cap, rfl, b_sl, b_ok, b_le, b_max, b_reach, b_nil⟩ := open_sl Try.underlying59 (c := 8) (by kernel_rfl) (by decide) opens_fr (hval 1 59 v1 rfl rfl) h1 (light_of hsz (j := 1) rfl rfl)
  refine (walk a b a_A a_cap b_A b_cap W a_sl (Nat.le_trans a_le a_max) a_ok b_sl (Nat.le_trans b_le b_max) b_ok a_le).mono fun e W' ⟨he, bel⟩ => ?_
  subst he
  exact ⟨_, rfl, _, _, _, [], _, [], hW', trodAll_mk1 (shut_bool Try.underlying4 _), keep_args laidOut bel (by kernel_rfl) hAll, rfl, bel.frame _, fun h => by cases h⟩

theorem over : Rows.diffMakesRow.holds Try.pinned (OpenSpec.ofChange Rows.diffMakesSpec) :=
  OpenClaim.holds_of_wide 11 Try.f11 rfl rfl rfl rfl rfl rfl rfl ⟨rfl, rfl, rfl, rfl, rfl⟩ rfl rfl rfl rfl rfl (by kernel_rfl) Try.func11 (by kernel_rfl)
    (of_decide_eq_true (by kernel_rfl)) (by unfold Func.isWrapper; first | (rw [if_pos (by decide +kernel)]; kernel_rfl) | (rw [if_neg (by decide +kernel)]; exact ⟨rfl, rfl⟩))
    (fun os started H enc _ => lifted os started H enc)

theorem proved : Rows.DiffMakesSaid := over
#print axioms proved
end Go.Proofs.Ytiljpbncfofnhaa.lawDMk
