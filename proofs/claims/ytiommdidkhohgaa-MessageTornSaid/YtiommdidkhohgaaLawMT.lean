/- MessageTorn: a form without its last bytes, or with one more, is none: whatever the input, the law returns true and leaves its argument as it was. -/
import Derived.Test.YtiommdidkhohgaaMsgE
import Derived.Test.YtiommdidkhohgaaMsgT
import Derived.ChangeMaps5
import Derived.Outline
import Derived.BigQuiet
import Derived.Deep.QuietTactic
import Derived.Deep.RegionWith
import Derived.Deep.RegionHeld3
import Derived.Deep.DrawnRows
import Derived.Deep.LoopGhost
import Derived.Deep.DeepCutAuto
import Derived.Laws.EntriesVeiled
namespace Go.Proofs.Ytiommdidkhohgaa.lawMT
open Go.RowKit Go.ChangeShapes Go.WideShapes Go.ChangeAt
set_option linter.unusedVariables false
set_option linter.unusedSimpArgs false
attribute [local go_sem ↓] Go.wp_at_zero Go.wp_at_succ
open Wire Word Bytes Go.Shelf Msg lawTorn

theorem print_le {m : Ms} (h : mayB m = true) : (printM m).1.length ≤ 1800000 := by
  obtain ⟨k, hk, hm, hp⟩ := print_ok h
  rw [hp]
  have hw := wf_vals hk hm
  have := putS_len (ksS k) (valsK k m) hw.1 hw.2
  have h6 : (ksS k).length ≤ 6 := by unfold ksS; split <;> (try split) <;> simp
  simp only
  omega
theorem num_eqs (z : Int) (n : Nat) (hn : 3 ≤ n) : ∃ v : Nat, (IntKind.u64.wrap z).tmod (n : Int) = (v : Int) ∧ v < n := by
  have h : 0 ≤ IntKind.u64.wrap z := by simp [IntKind.wrap, IntKind.bits, IntKind.signed]; omega
  have h1 := Int.tmod_nonneg (n : Int) h
  have h2 := Int.tmod_lt_of_pos (IntKind.u64.wrap z) (show (0 : Int) < (n : Int) by omega)
  exact ⟨((IntKind.u64.wrap z).tmod (n : Int)).toNat, by omega, by omega⟩
theorem box_up {w w1 w2 : World} {t : TypeId} {cs : Array Value} (h : Hid (Blk w1 w.heap.size t cs ∧ Below w.heap.size w w1 ∧ w.heap.size < w1.heap.size)) (hb : Below w1.heap.size w1 w2) : Hid (Blk w2 w.heap.size t cs ∧ Below w.heap.size w w2 ∧ w.heap.size < w2.heap.size) :=
  ⟨h.out.1.ext hb, ext_under h.out.2.1 (Nat.le_refl _) hb, by have := hb.size; have := h.out.2.2; omega⟩
theorem up_lit {w3 w4 w5 : World} {v : Value} {o : Obj} (hb : Below w3.heap.size w3 w4) (hf : ∀ k, v.ownBlock = some k → w3.heap.size ≤ k) (hc : Chg (fun k => v.ownBlock = some k) (w4.alloc o) w5) : Below w3.heap.size w3 w5 :=
  (hb.alloc hb.size o).trans (hc.below (hb.alloc hb.size o).size fun i hi hs => by have := hf _ hs; omega)
theorem may_g (r : Mr) (b : Bool) (w w1 : World) (hr : r.In w) (hb : mayB r.v = b) : Calls Try.prog 33 #[r.agg] w1 fun e w' => e = .returned (.bool b) ∧ Below w1.heap.size w1 w' := may_v r b w1 hb hr.kd hr.n
set_option maxHeartbeats 4000000 in
set_option maxRecDepth 100000 in
theorem walk (r : Mr) (z x : Int) (w : World) (hr : r.In w) (hx : 0 ≤ x ∧ x ≤ 255) :
    Calls Try.prog 14 #[r.agg, .int .i64 z, .int .u8 x] w fun e w' => e = .returned (.bool true) ∧ Below w.heap.size w w' := by
  obtain ⟨d, rfl⟩ : ∃ d : UInt8, x = (d.toNat : Int) := ⟨UInt8.ofNat x.toNat, by rw [UInt8.toNat_ofNat']; omega⟩
  obtain ⟨i0, hi, hz0, hz1, hz2⟩ := info_parts Word.byInfo
  clear hx
  by_cases hl : 1000 < r.n
  · have d1 : decide ((1000 : Int) < (r.n : Int)) = true := decide_eq_true (by omega)
    clear hr
    unfold Mr.agg
    go_enter Try.func14, Try.ntmps14; go_wp2_with fail; refine (Msg.awake_any _).mono ?_; rintro e w1 ⟨rfl, hb1⟩; have HB1 := box_in hb1; clear hb1; have da := (HB1.out.1).cell 0; have db := (HB1.out.1).cell 1; have dc := (HB1.out.1).cell 2; have dd := (HB1.out.1).cell 3; have de := (HB1.out.1).cell 4; have df := (HB1.out.1).cell 5; have dg := (HB1.out.1).cell 6; simp only [List.getElem?_toArray, List.getElem?_cons_zero, List.getElem?_cons_succ] at da db dc dd de df dg
    go_wp2
    go_ret
    exact ⟨rfl, HB1.out.2.1⟩
  · have d1 : decide ((1000 : Int) < (r.n : Int)) = false := decide_eq_false (by omega)
    cases hm : mayB r.v with
    | false =>
      have hmay := Lib.hid fun W => may_g r false w W hr hm
      clear hr hm
      unfold Mr.agg at hmay ⊢
      go_enter Try.func14, Try.ntmps14; go_wp2_with fail; refine (Msg.awake_any _).mono ?_; rintro e w1 ⟨rfl, hb1⟩; have HB1 := box_in hb1; clear hb1; have da := (HB1.out.1).cell 0; have db := (HB1.out.1).cell 1; have dc := (HB1.out.1).cell 2; have dd := (HB1.out.1).cell 3; have de := (HB1.out.1).cell 4; have df := (HB1.out.1).cell 5; have dg := (HB1.out.1).cell 6; simp only [List.getElem?_toArray, List.getElem?_cons_zero, List.getElem?_cons_succ] at da db dc dd de df dg
      go_wp2_with (go_at_call 33; refine (hmay.out _).mono ?_; rintro e w2 ⟨rfl, hb2⟩)
      go_ret
      exact ⟨rfl, ext_under HB1.out.2.1 (Nat.le_refl _) hb2⟩
    | true =>
      have hmay := Lib.hid fun W => may_g r true w W hr hm
      obtain ⟨p, hp⟩ : ∃ p, p = (printM r.v).1 := ⟨_, rfl⟩
      have hp2 : printM r.v = (p, 0) := by obtain ⟨k, _, _, h⟩ := print_ok hm; rw [hp, h]
      have HP : Hid (3 ≤ p.length ∧ p.length ≤ 1800000) := by rw [hp]; exact ⟨print_len3 hm, print_le hm⟩
      have H1 : Hid (parseM (p ++ [d]) = (ms0, 240)) := by rw [Hid, hp]; exact one_more hm d
      have H2 : Hid (∀ q, q < p.length → parseM (p.take q) = (ms0, 240)) := by rw [hp]; exact torn hm
      have hpr : Hid (∀ W, Below w.heap.size w W → Calls Try.prog 35 #[r.agg] W (RetPut W (p, 0))) := fun W h => by
        have h2 := print_any r W ((hr.ext h).rd (by omega))
        rwa [hp2] at h2
      clear hr hm hp hp2
      unfold Mr.agg at hmay hpr ⊢
      go_enter Try.func14, Try.ntmps14; go_wp2_with fail; refine (Msg.awake_any _).mono ?_; rintro e w1 ⟨rfl, hb1⟩; have HB1 := box_in hb1; clear hb1; have da := (HB1.out.1).cell 0; have db := (HB1.out.1).cell 1; have dc := (HB1.out.1).cell 2; have dd := (HB1.out.1).cell 3; have de := (HB1.out.1).cell 4; have df := (HB1.out.1).cell 5; have dg := (HB1.out.1).cell 6; simp only [List.getElem?_toArray, List.getElem?_cons_zero, List.getElem?_cons_succ] at da db dc dd de df dg
      go_wp2_with (first | (go_at_call 33; refine (hmay.out _).mono ?_; rintro e w2 ⟨rfl, hb2⟩; have HB2 := box_up HB1 hb2; clear hb2 da db dc dd de df dg; have da := (HB2.out.1).cell 0; have db := (HB2.out.1).cell 1; have dc := (HB2.out.1).cell 2; have dd := (HB2.out.1).cell 3; have de := (HB2.out.1).cell 4; have df := (HB2.out.1).cell 5; have dg := (HB2.out.1).cell 6; simp only [List.getElem?_toArray, List.getElem?_cons_zero, List.getElem?_cons_succ] at da db dc dd de df dg) | (go_at_call 35; refine (hpr.out _ HB2.out.2.1).mono ?_; rintro e w3 ⟨hb3, A1, n1, c1, rfl, ho3, hf3⟩; obtain ⟨A0, n0, c0, hv0, hn1, hle1, hmx1, hnil1⟩ := ho3.form; cases hv0; have HB3 : Hid (Below w.heap.size w w3 ∧ OwnA w3 5 1 encB (.slice A1 n1 c1) p) := ⟨ext_under HB2.out.2.1 (Nat.le_refl _) hb3, ho3⟩; clear hb3 ho3 hf3 da db dc dd de df dg))
      refine (copy_any p A1 n1 c1 w3 (HB3.out.2.sl encB_len) (by have := HP.out.2; omega) hn1).mono ?_; rintro e w4 ⟨v4, rfl, ho4, hb4⟩
      obtain ⟨A4, n4, c4, rfl, hn4, hle4, hmx4⟩ := ho4.form
      have HB4 : Hid (OwnA w4 5 1 encB (.slice A4 n4 c4) p ∧ Below w3.heap.size w3 w4 ∧ ∀ k, (Value.slice A4 n4 c4).ownBlock = some k → w3.heap.size ≤ k) := ⟨OwnA.of_own ho4, hb4, fun k hk => (ho4.lt hk).1⟩
      have a1 : Hid (p.length + [d].length ≤ maxLen) := by have := HP.out.2; rw [Hid]; simp [maxLen]; omega
      have a2 : Hid ((p.length + [d].length) * 1 ≤ 140737488355328) := by have := HP.out.2; rw [Hid]; simp; omega
      clear ho4 hb4
      simp only
      go_wp2_with (at_builtin; refine wpList_append_a _ rfl _ _ _ rfl 5 i0 _ 1 1 Try.underlying22 hi hz0 hz1 hz2 rfl (by decide) encB_len encB_one _ p (by rfl) (HB4.out.1.alloc _) _ (some ⟨w4.heap.size, 0, none⟩) [d] 1 1 (by rfl) rfl (lit_one w4 d 5 rfl) a1.out a2.out ?_; intro v' w5 hown' hchg hat; obtain ⟨A5, n5, c5, rfl, hn5, hle5, hmx5, hnil5⟩ := hown'.form; have HA : Hid (OwnA w5 5 1 encB (.slice A5 n5 c5) (p ++ [d]) ∧ Below w3.heap.size w3 w5) := ⟨hown', up_lit HB4.out.2.1 HB4.out.2.2 hchg⟩; clear hown' hchg hat)
      have hpa := parse_any (p ++ [d]) A5 n5 c5 w5 (HA.out.1.sl encB_len) hn5 hle5 (by have := hn5.out; have := HP.out.2; rw [List.length_append] at *; simp at *; omega)
      rw [H1.out] at hpa
      refine hpa.mono ?_; rintro e w6 ⟨hb6, r6, rfl, hr6, ho6, hf6⟩
      have HB6 := Lib.hid (ext_under HA.out.2 (Nat.le_refl _) hb6)
      clear hpa hb6 hr6 ho6 hf6
      have hn1' := hn1.out
      have h3 := HP.out
      obtain ⟨v, hv, hvn⟩ := num_eqs z n1 (by omega)
      have f1 : IntKind.u64.wrap (n1 : Int) = (n1 : Int) := IntWalk.u64_in _ (by omega)
      have f2 : IntKind.i64.wrap (v : Int) = (v : Int) := IntWalk.i64_in _ (by omega)
      have f3 : IntKind.i64.wrap (1 + (v : Int)) = 1 + (v : Int) := IntWalk.i64_in _ (by omega)
      obtain ⟨q, hq⟩ : ∃ q : Nat, (n1 : Int) - (1 + (v : Int)) = (q : Int) := ⟨n1 - 1 - v, by omega⟩
      have f4 : IntKind.i64.wrap ((n1 : Int) - (1 + (v : Int))) = (q : Int) := by rw [IntWalk.i64_in _ (by omega), hq]
      have hqn : q < n1 := by omega
      have g1 : ¬ (n1 : Int) < 3 := by omega
      have g2 : ((n1 : Int) == 0) = false := by simp; omega
      have g3 : decide (n1 < 3) = false := decide_eq_false (by omega)
      have g4 : ¬ (n1 : Int) = 0 := by omega
      have g5 : ¬ n1 = 0 := by omega
      have hsl : ∀ W, (Instr.slice 22 (.slice A1 n1 c1) none (some (.int .i64 (q : Int))) none).run Try.prog W = .ok (.slice A1 q c1) W := fun W => by
        have := run_slice_hi (c := 1) Try.underlying22 (Option.isSome_iff_exists.1 (by kernel_rfl)) (by kernel_rfl) A1 n1 c1 (q : Int) (by omega) (by omega) W
        simpa using this
      have HQ := Lib.hid (And.intro hqn hn1')
      clear hn1' h3 hvn hq
      have hpb : Hid (∀ W, Below w3.heap.size w3 W → Calls Try.prog 30 #[.slice A1 q c1] W (RetParse W (ms0, 240))) := fun W hW => by
        have h1 := parse_any (p.take q) A1 q c1 W (((HB3.out.2.ext hW).sl encB_len).take q) (by rw [Hid, List.length_take]; have := HQ.out; omega) (by have := HQ.out.1; omega) (by have := HQ.out; have := HP.out.2; omega)
        rwa [H2.out q (by have := HQ.out; omega)] at h1
      unfold Mr.agg
      simp only
      go_wp2_with fail
      refine (hpb.out _ (HB6.out.alloc HB6.out.size _)).mono ?_; rintro e w8 ⟨hb8, r8, rfl, hr8, ho8, hf8⟩
      have HB8 := Lib.hid (ext_under (HB6.out.alloc HB6.out.size _) (Nat.le_refl _) hb8)
      clear hb8 hr8 ho8 hf8
      unfold Mr.agg
      simp only
      go_wp2
      go_ret
      exact ⟨rfl, (ext_under HB3.out.1 (Nat.le_refl _) HB8.out).alloc (ext_under HB3.out.1 (Nat.le_refl _) HB8.out).size _⟩
theorem u8_wf {z : Int} (h : (Lit.int .u8 z).wf = true) : 0 ≤ z ∧ z ≤ 255 := by
  simpa [Lit.wf, IntKind.min, IntKind.max, IntKind.signed, IntKind.bits] using h
set_option maxRecDepth 100000 in
theorem lifted (os : Os) (started : os.Started) (H : Type) (enc : TypeId × Value → H) :
    ReturnsInHanded {} Try.checked os 14 .any (Rows.messageTornSpec.pre6 enc Try.prog Try.f14 Rows.messageTornRow.domain false) (Rows.messageTornSpec.post enc Try.prog Try.f14 false true false false) := by
  refine returnsInHanded_of_change_sized (C := Try.checked) own started (by kernel_rfl) Try.func14
    (ChangeSpec.witness6 (enc := enc) (C := Try.checked) false ⟨#[], #[.agg #[.int .u8 0, .int .i64 0, .int .i64 0, .int .i64 0, .int .i64 0, .bool false, .slice none 0 0], .int .i64 0, .int .u8 0], []⟩ 8 (by kernel_rfl) (by kernel_rfl) (by kernel_rfl) (by kernel_rfl)) ?_
  intro W base args ds gs before hval0 hW hcnd hsz0 _
  have hval : ∀ (j : Nat) t v, Try.f14.params[j]? = some t → args[j]? = some v → Value.okWide Try.prog W .any base t v := hval0
  have hW' := hW
  obtain ⟨p, q, hA0, hV, rfl, hfz, hnd⟩ := hW
  have hA : DataW.TrodAll enc Try.prog W 0 (fun _ => true) true Try.f14.params.toList args.toList ds p := hA0
  have hsz : (DataW.weightsEach Try.prog (Try.f14.params.toList ++ []) (ds ++ gs)).all (· ≤ reachBytes) = true := hsz0
  rw [Try.params14] at hA hval hsz
  have hAll := hA
  obtain ⟨v0, vs0, d0, ds0, p0, q0, hargs, rfl, rfl, h0, r0⟩ := trodAll_cons hA
  obtain ⟨v1, vs1, d1, ds1, p1, q1, rfl, rfl, rfl, h1, r1⟩ := trodAll_cons r0
  obtain ⟨v2, vs2, d2, ds2, p2, q2, rfl, rfl, rfl, h2, r2⟩ := trodAll_cons r1
  obtain ⟨rfl, rfl, rfl⟩ := trodAll_nil r2
  obtain rfl : args = #[v0, v1, v2] := by cases args; simp_all
  obtain ⟨rfl, rfl⟩ := trodVars_none hV
  obtain ⟨m, rfl, m_in⟩ := open_msg (hval 0 56 v0 rfl rfl) h0 (light_of hsz (j := 0) rfl rfl)
  obtain ⟨z, rfl, _, _, z_wf⟩ := open_int Try.underlying3 (hval 1 3 v1 rfl rfl) h1
  obtain ⟨a, rfl, _, _, a_wf⟩ := open_int Try.underlying5 (hval 2 5 v2 rfl rfl) h2
  refine (walk m z a W m_in (u8_wf a_wf)).mono fun e W' ⟨he, bel⟩ => ?_
  subst he
  exact ⟨_, rfl, _, _, _, [], _, [], hW', trodAll_mk1 (shut_bool Try.underlying4 _), keep_args laidOut bel (by kernel_rfl) hAll, rfl, bel.frame _, fun h => by cases h⟩

theorem over : Rows.messageTornRow.holds Try.pinned (OpenSpec.ofChange Rows.messageTornSpec) :=
  OpenClaim.holds_of_wide 14 Try.f14 rfl rfl rfl rfl rfl rfl rfl ⟨rfl, rfl, rfl, rfl, rfl⟩ rfl rfl rfl rfl rfl (by kernel_rfl) Try.func14 (by kernel_rfl)
    (of_decide_eq_true (by kernel_rfl)) (by unfold Func.isWrapper; first | (rw [if_pos (by decide +kernel)]; kernel_rfl) | (rw [if_neg (by decide +kernel)]; exact ⟨rfl, rfl⟩))
    (fun os started H enc _ => lifted os started H enc)

theorem proved : Rows.MessageTornSaid := over
#print axioms proved
end Go.Proofs.Ytiommdidkhohgaa.lawMT
