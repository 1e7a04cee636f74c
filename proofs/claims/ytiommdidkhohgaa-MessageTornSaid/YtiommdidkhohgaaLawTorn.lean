/- WireTorn: a form without its last bytes is none by that schema; one with a byte behind it is none as a whole: whatever the input, the law returns true and leaves its arguments as they were. -/
import Derived.Test.YtiommdidkhohgaaGreat04
import Derived.ChangeMaps5
import Derived.Outline
import Derived.BigQuiet
import Derived.Deep.QuietTactic
import Derived.Deep.RegionWith
import Derived.Deep.RegionHeld3
import Derived.Deep.DrawnRows
import Derived.Deep.LoopGhost
import Derived.Deep.DeepCutAuto
import Derived.Laws.EntriesVeiled
namespace Go.Proofs.Ytiommdidkhohgaa.lawTorn
open Go.RowKit Go.ChangeShapes Go.WideShapes Go.ChangeAt
set_option linter.unusedVariables false
set_option linter.unusedSimpArgs false
attribute [local go_sem ↓] Go.wp_at_zero Go.wp_at_succ
open Wire Word Bytes Go.Shelf

theorem putP_ok {sl : List UInt8} {vs : List WV} (h : (putP sl vs).2 = 0) : ∃ ks, schemaP sl = some ks ∧ fitsS ks vs = true ∧ vs.any longV = false ∧ (putP sl vs).1 = putS ks vs := by
  unfold putP at h ⊢
  cases hs : schemaP sl with
  | none => rw [hs] at h; cases h
  | some ks =>
    rw [hs] at h
    simp only at h ⊢
    by_cases hf : fitsS ks vs = true
    · rw [if_pos hf] at h ⊢
      by_cases hl : vs.any longV = true
      · rw [if_pos hl] at h; cases h
      · rw [if_neg hl] at h ⊢
        exact ⟨ks, rfl, hf, by simpa using hl, rfl⟩
    · rw [if_neg hf] at h; cases h
theorem putP_err {sl : List UInt8} {vs : List WV} (h : (putP sl vs).2 ≠ 0) : (putP sl vs).1 = [] := by
  unfold putP at h ⊢
  cases hs : schemaP sl with
  | none => rfl
  | some ks =>
    rw [hs] at h
    simp only at h ⊢
    by_cases hf : fitsS ks vs = true
    · rw [if_pos hf] at h ⊢
      by_cases hl : vs.any longV = true
      · rw [if_pos hl]
      · rw [if_neg hl] at h; exact absurd rfl h
    · rw [if_neg hf]
theorem putS_len : ∀ (ks : List Kd) (vs : List WV), (∀ v ∈ vs, v.Wf) → vs.any longV = false → (putS ks vs).length ≤ 300000 * ks.length
  | [], vs, _, _ => by cases vs <;> simp [putS]
  | k :: ks, [], _, _ => by simp [putS]
  | k :: ks, v :: vs, hw, hl => by
    simp only [List.any_cons, Bool.or_eq_false_iff] at hl
    have h1 := putK_len k v (hw v (by simp)) hl.1
    have h2 := putS_len ks vs (fun x hx => hw x (by simp [hx])) hl.2
    rw [putS, List.length_append, List.length_cons]
    omega
theorem schema_len {sl : List UInt8} {ks : List Kd} (h : schemaP sl = some ks) : ks.length ≤ 64 := by
  unfold schemaP at h
  split at h
  · rw [kds_length _ _ h]; assumption
  · cases h

theorem in_ext {w w' : World} {r : Wr} (h : r.In w) (hb : Below w.heap.size w w') : r.In w' := ⟨h.b.ext hb, h.bn, h.l.ext hb, h.ln, h.n, h.i1, h.i2, h.p, h.bm, h.lm⟩
theorem all_wf {w : World} {rs : List Wr} (h : ∀ r ∈ rs, r.Rd w) : ∀ v ∈ rs.map Wr.v, v.Wf := by
  intro v hv
  obtain ⟨r, hr, rfl⟩ := List.mem_map.1 hv
  exact (h r hr).wf
theorem whole_more {sl : List UInt8} {ks : List Kd} {vs : List WV} (d : UInt8) (hs : schemaP sl = some ks) (hf : fitsS ks vs = true) (hw : ∀ v ∈ vs, v.Wf) (hl : vs.any longV = false) : wholeP sl (putS ks vs ++ [d]) = ([], 40) := by
  unfold wholeP takeP
  rw [hs]
  simp only
  rw [takeS_put ks vs [d] hf hw hl]
  simp [outT]
theorem take_less {sl : List UInt8} {ks : List Kd} {vs : List WV} (q : Nat) (hs : schemaP sl = some ks) (hf : fitsS ks vs = true) (hw : ∀ v ∈ vs, v.Wf) (hl : vs.any longV = false) (hq : q < (putS ks vs).length) : takeP sl ((putS ks vs).take q) = ([], 0, 40) := by
  unfold takeP
  rw [hs]
  simp only
  rw [take_torn ks vs q hf hw hl hq]
  rfl

set_option maxHeartbeats 4000000 in
theorem walk (s : ByteArray) (rs : List Wr) (A : Option Addr) (n cap : Nat) (m z : Int) (w : World) (hl : Sl w w.heap.size 5 Wr.cells A rs) (hr : ∀ r ∈ rs, r.In w) (hn : Hid (n = rs.length)) (hm : n ≤ maxLen) (hz : 0 ≤ z ∧ z ≤ 255) (hm1 : -9223372036854775808 ≤ m) (hm2 : m ≤ 9223372036854775807) :
    Calls Try.prog 5 #[.string s, .slice A n cap, .int .i64 m, .int .u8 z] w fun e w' => e = .returned (.bool true) ∧ Below w.heap.size w w' := by
  obtain ⟨d, rfl⟩ : ∃ d : UInt8, z = (d.toNat : Int) := ⟨UInt8.ofNat z.toNat, by rw [UInt8.toNat_ofNat']; omega⟩
  have HL := Lib.hid (And.intro hl hr)
  obtain ⟨i0, hi, hz0, hz1, hz2⟩ := info_parts Word.byInfo
  clear hl hr hz
  by_cases hs : 64 < s.size
  · have h1 : decide ((64 : Int) < (s.size : Int)) = true := decide_eq_true (by omega)
    go_enter Try.func5, Try.ntmps5
    go_wp2_with fail
    refine (awake_any w).mono ?_; rintro e w1 ⟨rfl, hb1⟩
    go_wp2
    go_ret
    exact ⟨rfl, hb1⟩
  · have h1 : decide ((64 : Int) < (s.size : Int)) = false := decide_eq_false (by omega)
    have hss : s.data.toList.length ≤ 1000000 := by have : s.size = s.data.toList.length := rfl; omega
    go_enter Try.func5, Try.ntmps5
    go_wp2_with fail
    refine (awake_any w).mono ?_; rintro e w1 ⟨rfl, hb1⟩
    have HB1 := Lib.hid hb1
    clear hb1
    go_wp2_with fail
    cases hgb : greatB rs 0 with
    | true =>
      have hg := great_any rs A n cap w1 (HL.out.1.ext HB1.out) (fun r hr => in_ext (HL.out.2 r hr) HB1.out) hn hm
      rw [hgb] at hg
      refine hg.mono ?_; rintro e w2 ⟨rfl, k2, rfl⟩
      go_wp2
      go_ret
      exact ⟨rfl, bdrewN HB1.out k2⟩
    | false =>
      have hg := great_any rs A n cap w1 (HL.out.1.ext HB1.out) (fun r hr => in_ext (HL.out.2 r hr) HB1.out) hn hm
      rw [hgb] at hg
      refine hg.mono ?_; rintro e w2 ⟨rfl, k2, rfl⟩
      have HB2 : Hid (Below w.heap.size w (w1.drewN k2)) := bdrewN HB1.out k2
      generalize w1.drewN k2 = w2 at *
      have HG : Hid ((∀ r ∈ rs, r.bn ≤ 4000 ∧ r.ln ≤ 4000) ∧ rs.length ≤ 400) := by
        rcases great_no rs 0 hgb with ⟨h1, h2⟩ | rfl
        · exact ⟨h1, by omega⟩
        · exact ⟨by simp, by simp⟩
      have HV : Hid (VRd w2 A n rs) := ⟨HL.out.1.ext HB2.out, hn, fun r hr => (in_ext (HL.out.2 r hr) HB2.out).rd (by have := (HG.out.1 r hr).1; omega) (by have := (HG.out.1 r hr).2; omega), by have := HG.out.2; omega⟩
      have HW := Lib.hid (all_wf HV.out.rd)
      have hput := put_any' s rs A n cap w2 hss HV.out
      have hS := Lib.hid hss
      clear hg hgb hss
      go_wp2_with fail
      cases her : (putP s.data.toList (rs.map Wr.v)).2 == 0 with
      | false =>
        have hp := putP_err (by simpa using her)
        generalize putP s.data.toList (rs.map Wr.v) = X at *
        obtain ⟨p, er⟩ := X
        simp only at hp her
        subst hp
        refine hput.mono ?_; rintro e w3 ⟨hb3, A1, n1, c1, rfl, ho3, hf3⟩
        have hn1 : n1 = 0 := ho3.len
        subst hn1
        have HB3 := Lib.hid (ext_under HB2.out (Nat.le_refl _) hb3)
        clear ho3 hf3 hb3
        have her2 : (er != 0) = true := by simpa using her
        simp only
        go_wp2
        go_ret
        exact ⟨rfl, HB3.out⟩
      | true =>
        obtain ⟨ks, hks, hfit, hlong, hp⟩ := putP_ok (by simpa using her)
        have her' : (putP s.data.toList (rs.map Wr.v)).2 = 0 := by simpa using her
        have hplen := putS_len ks (rs.map Wr.v) HW.out hlong
        have hk64 := schema_len hks
        have hmore := Lib.hid (whole_more d hks hfit HW.out hlong)
        have hless := Lib.hid (fun q (hq : q < (putS ks (rs.map Wr.v)).length) => take_less q hks hfit HW.out hlong hq)
        generalize putP s.data.toList (rs.map Wr.v) = X at *
        obtain ⟨p, er⟩ := X
        simp only at hp her'
        subst her'
        rw [← hp] at hmore hless hplen
        clear her hks hfit hlong hp
        have hpb : p.length ≤ 19200000 := by omega
        have HPB := Lib.hid hpb
        refine hput.mono ?_; rintro e w3 ⟨hb3, A1, n1, c1, rfl, ho3, hf3⟩
        obtain ⟨A0, n0, c0, hv0, hn1, hle1, hmx1, hnil1⟩ := ho3.form
        cases hv0
        have HB3 : Hid (Below w.heap.size w w3 ∧ OwnA w3 5 1 encB (.slice A1 n1 c1) p) := ⟨ext_under HB2.out (Nat.le_refl _) hb3, ho3⟩
        have hn1b : n1 ≤ 19200000 := by rw [hn1.out]; exact hpb
        clear ho3 hf3 hb3 hplen hpb hput
        have a1 : Hid (p.length + [d].length ≤ maxLen) := by have := HPB.out; rw [Hid]; simp [maxLen]; omega
        have a2 : Hid ((p.length + [d].length) * 1 ≤ 140737488355328) := by have := HPB.out; rw [Hid]; simp; omega
        simp only
        go_wp2_with fail
        refine (copy_any p A1 n1 c1 w3 (HB3.out.2.sl encB_len) (by have := HPB.out; omega) hn1).mono ?_; rintro e w4 ⟨v4, rfl, ho4, hb4⟩
        obtain ⟨A4, n4, c4, rfl, hn4, hle4, hmx4⟩ := ho4.form
        have HB4 : Hid (Below w.heap.size w w4 ∧ OwnA w4 5 1 encB (.slice A1 n1 c1) p ∧ OwnA w4 5 1 encB (.slice A4 n4 c4) p ∧ ∀ k, (Value.slice A4 n4 c4).ownBlock = some k → w3.heap.size ≤ k) := ⟨ext_under HB3.out.1 (Nat.le_refl _) hb4, HB3.out.2.ext hb4, OwnA.of_own ho4, fun k hk => (ho4.lt hk).1⟩
        clear ho4 hb4
        have hA1 : ∀ k, (Value.slice A1 n1 c1).ownBlock = some k → k < w3.heap.size := fun k hk => OwnA.lt HB3.out.2 hk
        have HA1 := Lib.hid hA1
        clear hA1
        simp only
        go_wp2_with (at_builtin; refine wpList_append_a _ rfl _ _ _ rfl 5 i0 _ 1 1 Try.underlying22 hi hz0 hz1 hz2 rfl (by decide) encB_len encB_one _ p (by rfl) (HB4.out.2.2.1.alloc _) _ (some ⟨w4.heap.size, 0, none⟩) [d] 1 1 (by rfl) rfl (lit_one w4 d 5 rfl) a1.out a2.out ?_; intro v' w5 hown' hchg hat; obtain ⟨A5, n5, c5, rfl, hn5, hle5, hmx5, hnil5⟩ := hown'.form; have HA := Lib.hid (And.intro hown' (And.intro hchg hat)); clear hown' hchg hat)
        have hbo : Below w.heap.size w (w4.alloc (.cells #[.int .u8 (d.toNat : Int)] 5)) := HB4.out.1.alloc HB4.out.1.size _
        have HB5 : Hid (Below w.heap.size w w5 ∧ OwnA w5 5 1 encB (.slice A1 n1 c1) p) := by
          have hw3 := HB3.out.1.size
          refine ⟨hbo.trans (HA.out.2.1.below hbo.size fun i hi hs => by have := HB4.out.2.2.2 _ hs; omega), (HB4.out.2.1.alloc _).chg HA.out.2.1 (fun k hk hs => ?_)⟩
          have := HA1.out k hk
          have := HB4.out.2.2.2 _ hs
          omega
        have hwh := whole_any s (p ++ [d]) A5 n5 c5 w5 hS.out (HA.out.1.sl encB_len) hn5 hle5 (by have := hn5.out; have := HPB.out; rw [List.length_append] at *; simp at *; omega)
        rw [hmore.out] at hwh
        have HWH := Lib.hid hwh
        clear hwh hbo
        refine HWH.out.mono ?_; rintro e w6 ⟨hb6, A6, n6, c6, rs6, rfl, hr6, hv6⟩
        have HB6 : Hid (Below w.heap.size w w6 ∧ OwnA w6 5 1 encB (.slice A1 n1 c1) p) := ⟨ext_under HB5.out.1 (Nat.le_refl _) hb6, HB5.out.2.ext hb6⟩
        clear hb6 hr6 hv6
        simp only
        by_cases hm3 : m < 1
        · have d1 : decide (m < 1) = true := decide_eq_true hm3
          go_wp2
          go_ret
          exact ⟨rfl, HB6.out.1⟩
        · have d1 : decide (m < 1) = false := decide_eq_false hm3
          by_cases hm4 : (n1 : Int) < m
          · have d2 : decide ((n1 : Int) < m) = true := decide_eq_true hm4
            go_wp2
            go_ret
            exact ⟨rfl, HB6.out.1⟩
          · have d2 : decide ((n1 : Int) < m) = false := decide_eq_false hm4
            obtain ⟨q, hq⟩ : ∃ q : Nat, (q : Int) = (n1 : Int) - m := ⟨((n1 : Int) - m).toNat, by omega⟩
            have e1 : IntKind.i64.wrap ((n1 : Int) - m) = (q : Int) := by rw [← hq]; exact IntWalk.i64_in _ (by omega)
            have hqn : q < n1 := by omega
            have hsl : ∀ W, (Instr.slice 22 (.slice A1 n1 c1) none (some (.int .i64 (q : Int))) none).run Try.prog W = .ok (.slice A1 q c1) W := fun W => by
              have := run_slice_hi (c := 1) Try.underlying22 (Option.isSome_iff_exists.1 (by kernel_rfl)) (by kernel_rfl) A1 n1 c1 (q : Int) (by omega) (by omega) W
              simpa using this
            have hql : Hid (q = (p.take q).length) := by have := hn1.out; rw [Hid, List.length_take]; omega
            have htk := take_any s (p.take q) A1 q c1 w6 hS.out ((HB6.out.2.sl encB_len).take q) hql (by omega) (by omega)
            rw [hless.out q (by rw [← hn1.out]; exact hqn)] at htk
            have HTK := Lib.hid htk
            clear htk hq hqn
            go_wp2_with fail
            refine HTK.out.mono ?_; rintro e w7 ⟨hb7, A7, n7, c7, rs7, rfl, hr7, hv7⟩
            have HB7 := Lib.hid (ext_under HB6.out.1 (Nat.le_refl _) hb7)
            clear hb7 hr7 hv7
            simp only
            go_wp2
            go_ret
            exact ⟨rfl, HB7.out⟩

theorem u8_bounds {z : Int} (h : (Lit.int .u8 z).wf = true) : 0 ≤ z ∧ z ≤ 255 := by simpa [Lit.wf, IntKind.min, IntKind.max, IntKind.signed, IntKind.bits] using h
theorem i64_bounds' {z : Int} (h : (Lit.int .i64 z).wf = true) : -9223372036854775808 ≤ z ∧ z ≤ 9223372036854775807 := by simpa [Lit.wf, IntKind.min, IntKind.max, IntKind.signed, IntKind.bits] using h
set_option maxRecDepth 100000 in
theorem lifted (os : Os) (started : os.Started) (H : Type) (enc : TypeId × Value → H) :
    ReturnsInHanded {} Try.checked os 5 .any (Rows.wireTornSpec.pre6 enc Try.prog Try.f5 Rows.wireTornRow.domain false) (Rows.wireTornSpec.post enc Try.prog Try.f5 false true false false) := by
  refine returnsInHanded_of_change_sized (C := Try.checked) own started (by kernel_rfl) Try.func5
    (ChangeSpec.witness6 (enc := enc) (C := Try.checked) false ⟨#[], #[.string ByteArray.empty, .slice none 0 0, .int .i64 0, .int .u8 0], []⟩ 8 (by kernel_rfl) (by kernel_rfl) (by kernel_rfl) (by kernel_rfl)) ?_
  intro W base args ds gs before hval0 hW hcnd hsz0 _
  have hval : ∀ (j : Nat) t v, Try.f5.params[j]? = some t → args[j]? = some v → Value.okWide Try.prog W .any base t v := hval0
  have hW' := hW
  obtain ⟨p, q, hA0, hV, rfl, hfz, hnd⟩ := hW
  have hA : DataW.TrodAll enc Try.prog W 0 (fun _ => true) true Try.f5.params.toList args.toList ds p := hA0
  have hsz : (DataW.weightsEach Try.prog (Try.f5.params.toList ++ []) (ds ++ gs)).all (· ≤ reachBytes) = true := hsz0
  rw [Try.params5] at hA hval hsz
  have hAll := hA
  obtain ⟨v0, vs0, d0, ds0, p0, q0, hargs, rfl, rfl, h0, r0⟩ := trodAll_cons hA
  obtain ⟨v1, vs1, d1, ds1, p1, q1, rfl, rfl, rfl, h1, r1⟩ := trodAll_cons r0
  obtain ⟨v2, vs2, d2, ds2, p2, q2, rfl, rfl, rfl, h2, r2⟩ := trodAll_cons r1
  obtain ⟨v3, vs3, d3, ds3, p3, q3, rfl, rfl, rfl, h3, r3⟩ := trodAll_cons r2
  obtain ⟨rfl, rfl, rfl⟩ := trodAll_nil r3
  obtain rfl : args = #[v0, v1, v2, v3] := by cases args; simp_all
  obtain ⟨rfl, rfl⟩ := trodVars_none hV
  obtain ⟨s, rfl, _, _, _⟩ := ChangeMaps.open_string Try.underlying9 (hval 0 9 v0 rfl rfl) h0
  obtain ⟨l_A, l, l_cap, rfl, l_sl, l_ok, l_le, l_max, l_reach, l_nil⟩ := open_sl Try.underlying24 (c := 5) (by kernel_rfl) (by decide) opens_val (hval 1 24 v1 rfl rfl) h1 (light_of hsz (j := 1) rfl rfl)
  obtain ⟨m, rfl, _, _, m_wf⟩ := open_int Try.underlying3 (hval 2 3 v2 rfl rfl) h2
  obtain ⟨z, rfl, _, _, z_wf⟩ := open_int Try.underlying5 (hval 3 5 v3 rfl rfl) h3
  refine (walk s l l_A l.length l_cap m z W l_sl l_ok rfl (Nat.le_trans l_le l_max) (u8_bounds z_wf) (i64_bounds' m_wf).1 (i64_bounds' m_wf).2).mono fun e W' ⟨he, bel⟩ => ?_
  subst he
  exact ⟨_, rfl, _, _, _, [], _, [], hW', trodAll_mk1 (shut_bool Try.underlying4 _), keep_args laidOut bel (by kernel_rfl) hAll, rfl, bel.frame _, fun h => by cases h⟩

theorem over : Rows.wireTornRow.holds Try.pinned (OpenSpec.ofChange Rows.wireTornSpec) :=
  OpenClaim.holds_of_wide 5 Try.f5 rfl rfl rfl rfl rfl rfl rfl ⟨rfl, rfl, rfl, rfl, rfl⟩ rfl rfl rfl rfl rfl (by kernel_rfl) Try.func5 (by kernel_rfl)
    (of_decide_eq_true (by kernel_rfl)) (by unfold Func.isWrapper; first | (rw [if_pos (by decide +kernel)]; kernel_rfl) | (rw [if_neg (by decide +kernel)]; exact ⟨rfl, rfl⟩))
    (fun os started H enc _ => lifted os started H enc)

theorem proved : Rows.WireTornSaid := over
#print axioms proved
end Go.Proofs.Ytiommdidkhohgaa.lawTorn
