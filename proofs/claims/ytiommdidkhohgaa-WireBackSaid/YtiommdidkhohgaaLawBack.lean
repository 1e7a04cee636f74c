/- WireBack: what was put is taken as it was, whatever stands behind it; what is taken of any bytes is put as just those: whatever the input, the law returns true and leaves its arguments as they were. -/
import Derived.Test.YtiommdidkhohgaaLawTorn
import Derived.ChangeMaps5
import Derived.Outline
import Derived.BigQuiet
import Derived.Deep.QuietTactic
import Derived.Deep.RegionWith
import Derived.Deep.RegionHeld3
import Derived.Deep.DrawnRows
import Derived.Deep.LoopGhost
import Derived.Deep.DeepCutAuto
import Derived.Laws.EntriesVeiled
namespace Go.Proofs.Ytiommdidkhohgaa.lawBack
open Go.RowKit Go.ChangeShapes Go.WideShapes Go.ChangeAt
set_option linter.unusedVariables false
set_option linter.unusedSimpArgs false
attribute [local go_sem ↓] Go.wp_at_zero Go.wp_at_succ
open Wire Word Bytes Go.Shelf lawTorn

theorem takeP_err {sl b : List UInt8} (h : (takeP sl b).2.2 ≠ 0) : (takeP sl b).1 = [] ∧ (takeP sl b).2.1 = 0 := by
  unfold takeP at h ⊢
  cases hs : schemaP sl with
  | none => exact ⟨rfl, rfl⟩
  | some ks =>
    rw [hs] at h
    simp only at h ⊢
    cases ht : takeS ks b with
    | none => exact ⟨rfl, rfl⟩
    | some x => obtain ⟨v, u⟩ := x; rw [ht] at h; exact absurd rfl h
theorem takeP_ok {sl b : List UInt8} (h : (takeP sl b).2.2 = 0) : ∃ ks, schemaP sl = some ks ∧ takeS ks b = some ((takeP sl b).1, (takeP sl b).2.1) := by
  unfold takeP at h ⊢
  cases hs : schemaP sl with
  | none => rw [hs] at h; cases h
  | some ks =>
    rw [hs] at h
    simp only at h ⊢
    cases ht : takeS ks b with
    | none => rw [ht] at h; cases h
    | some x => obtain ⟨v, u⟩ := x; exact ⟨ks, rfl, ht⟩
theorem takeS_len' : ∀ (ks : List Kd) (l : List UInt8) (vs : List WV) (u : Nat), takeS ks l = some (vs, u) → vs.length = ks.length := fun ks l vs u h => (fits_len ks vs (put_takeS ks l vs u h).2.1).symm
theorem take_more {sl : List UInt8} {ks : List Kd} {vs : List WV} (b : List UInt8) (hs : schemaP sl = some ks) (hf : fitsS ks vs = true) (hw : ∀ v ∈ vs, v.Wf) (hl : vs.any longV = false) : takeP sl (putS ks vs ++ b) = (vs, (putS ks vs).length, 0) := by
  unfold takeP
  rw [hs]
  simp only
  rw [takeS_put ks vs b hf hw hl]
  rfl

set_option maxHeartbeats 8000000 in
theorem walk (s : ByteArray) (rs : List Wr) (A : Option Addr) (n cap : Nat) (bs : List UInt8) (B : Option Addr) (nb cb : Nat) (w : World) (hl : Sl w w.heap.size 5 Wr.cells A rs) (hr : ∀ r ∈ rs, r.In w) (hn : Hid (n = rs.length)) (hm : n ≤ maxLen)
    (hb : BySl w w.heap.size B bs) (hnb : Hid (nb = bs.length)) (hcb : nb ≤ cb) :
    Calls Try.prog 8 #[.string s, .slice A n cap, .slice B nb cb] w fun e w' => e = .returned (.bool true) ∧ Below w.heap.size w w' := by
  have HL := Lib.hid (And.intro hl (And.intro hr hb))
  obtain ⟨i0, hi, hz0, hz1, hz2⟩ := info_parts Word.byInfo
  clear hl hr hb
  by_cases hs : 100 < s.size
  · have h1 : decide ((100 : Int) < (s.size : Int)) = true := decide_eq_true (by omega)
    go_enter Try.func8, Try.ntmps8
    go_wp2_with fail
    refine (awake_any w).mono ?_; rintro e w1 ⟨rfl, hb1⟩
    go_wp2
    go_ret
    exact ⟨rfl, hb1⟩
  · have h1 : decide ((100 : Int) < (s.size : Int)) = false := decide_eq_false (by omega)
    have hss : s.data.toList.length ≤ 1000000 := by have : s.size = s.data.toList.length := rfl; omega
    have hS := Lib.hid hss
    go_enter Try.func8, Try.ntmps8
    go_wp2_with fail
    refine (awake_any w).mono ?_; rintro e w1 ⟨rfl, hb1⟩
    have HB1 := Lib.hid hb1
    clear hb1
    go_wp2_with fail
    have hg := great_any rs A n cap w1 (HL.out.1.ext HB1.out) (fun r hr => in_ext (HL.out.2.1 r hr) HB1.out) hn hm
    cases hgb : greatB rs 0 with
    | true =>
      rw [hgb] at hg
      refine hg.mono ?_; rintro e w2 ⟨rfl, k2, rfl⟩
      go_wp2
      go_ret
      exact ⟨rfl, bdrewN HB1.out k2⟩
    | false =>
      rw [hgb] at hg
      refine hg.mono ?_; rintro e w2 ⟨rfl, k2, rfl⟩
      have HB2 : Hid (Below w.heap.size w (w1.drewN k2)) := bdrewN HB1.out k2
      generalize w1.drewN k2 = w2 at *
      by_cases hnb2 : 1000 < nb
      · have d1 : decide ((1000 : Int) < (nb : Int)) = true := decide_eq_true (by omega)
        go_wp2
        go_ret
        exact ⟨rfl, HB2.out⟩
      · have d1 : decide ((1000 : Int) < (nb : Int)) = false := decide_eq_false (by omega)
        have HG : Hid ((∀ r ∈ rs, r.bn ≤ 4000 ∧ r.ln ≤ 4000) ∧ rs.length ≤ 400) := by
          rcases great_no rs 0 hgb with ⟨h1, h2⟩ | rfl
          · exact ⟨h1, by omega⟩
          · exact ⟨by simp, by simp⟩
        have HV : Hid (VRd w2 A n rs) := ⟨HL.out.1.ext HB2.out, hn, fun r hr => (in_ext (HL.out.2.1 r hr) HB2.out).rd (by have := (HG.out.1 r hr).1; omega) (by have := (HG.out.1 r hr).2; omega), by have := HG.out.2; omega⟩
        have HW := Lib.hid (all_wf HV.out.rd)
        have hput := put_any' s rs A n cap w2 hS.out HV.out
        clear hg hgb hss
        go_wp2_with fail
        cases her : (putP s.data.toList (rs.map Wr.v)).2 == 0 with
        | false =>
          generalize putP s.data.toList (rs.map Wr.v) = X at *
          obtain ⟨p, er⟩ := X
          simp only at her
          refine hput.mono ?_; rintro e W9 ⟨hb3, A1, n1, c1, rfl, ho3, hf3⟩
          have HBW : Hid (Below w.heap.size w W9 ∧ BySl W9 W9.heap.size B bs) := ⟨ext_under HB2.out (Nat.le_refl _) hb3, (HL.out.2.2.ext HB2.out).ext hb3⟩
          clear ho3 hf3 hb3 hput
          simp only
          go_wp2_with fail
          cases her2 : (takeP s.data.toList bs).2.2 == 0 with
          | false =>
            have hx := takeP_err (by simpa using her2)
            have htk := take_any s bs B nb cb W9 hS.out HBW.out.2 hnb hcb (by omega)
            generalize takeP s.data.toList bs = X2 at *
            obtain ⟨v2, u2, er2⟩ := X2
            simp only at hx her2
            obtain ⟨rfl, rfl⟩ := hx
            refine htk.mono ?_; rintro e wA ⟨hbA, AA, nA, cA, rsA, rfl, hrA, hvA⟩
            have hnA : nA = 0 := by
              have h := hvA.own.len
              have h2 := congrArg List.length hrA
              rw [List.length_map] at h2
              rw [h, h2]; rfl
            subst hnA
            have HBA := Lib.hid (ext_under HBW.out.1 (Nat.le_refl _) hbA)
            have her3 : (er2 != 0) = true := by simpa using her2
            clear hbA hrA hvA htk
            simp only
            go_wp2
            go_ret
            exact ⟨rfl, HBA.out⟩
          | true =>
            obtain ⟨ks2, hks2, hts2⟩ := takeP_ok (by simpa using her2)
            have her3 : (takeP s.data.toList bs).2.2 = 0 := by simpa using her2
            have htk := take_any s bs B nb cb W9 hS.out HBW.out.2 hnb hcb (by omega)
            generalize takeP s.data.toList bs = X2 at *
            obtain ⟨v2, u2, er2⟩ := X2
            simp only at hts2 her3
            subst her3
            obtain ⟨g1, g2, g3, g4, g5⟩ := put_takeS ks2 _ _ _ hts2
            have hlen2 := takeS_len' ks2 _ _ _ hts2
            have hpp : putP s.data.toList v2 = (bs.take u2, 0) := by unfold putP; rw [hks2]; simp only; rw [if_pos g2, if_neg (by rw [g4]; simp), g1]
            have h64 := schema_len hks2
            refine htk.mono ?_; rintro e wA ⟨hbA, AA, nA, cA, rsA, rfl, hrA, hvA⟩
            simp only at hrA
            have HBA : Hid (Below w.heap.size w wA ∧ BySl wA wA.heap.size B bs) := ⟨ext_under HBW.out.1 (Nat.le_refl _) hbA, HBW.out.2.ext hbA⟩
            have hpu := put_any' s rsA AA nA cA wA hS.out (hvA.rd (by have h := congrArg List.length hrA; rw [List.length_map] at h; omega))
            rw [hrA, hpp] at hpu
            have HPU := Lib.hid hpu
            have hu2 : u2 ≤ nb := by rw [hnb.out]; exact g5
            clear hbA hrA hvA htk hpu g1 g2 g3 g4 g5 hpp hts2 hks2
            simp only
            go_wp2_with fail
            refine HPU.out.mono ?_; rintro e wB ⟨hbB, AB, nB, cB, rfl, hoB, hfB⟩
            have hnB : Hid (nB = (bs.take u2).length ∧ nB = u2) := ⟨hoB.len, by rw [hoB.len, List.length_take]; have := hnb.out; omega⟩
            have HBB : Hid (Below w.heap.size w wB ∧ BySl wB wB.heap.size B bs ∧ BySl wB wB.heap.size AB (bs.take u2)) := ⟨ext_under HBA.out.1 (Nat.le_refl _) hbB, HBA.out.2.ext hbB, hoB.sl encB_len⟩
            have hq9 : nB = u2 := hnB.out.2
            subst hq9
            have hsl : ∀ W, (Instr.slice 22 (.slice B nb cb) none (some (.int .i64 (nB : Int))) none).run Try.prog W = .ok (.slice B nB cb) W := fun W => by
              have := run_slice_hi (c := 1) Try.underlying22 (Option.isSome_iff_exists.1 (by kernel_rfl)) (by kernel_rfl) B nb cb (nB : Int) (by omega) (by omega) W
              simpa using this
            have hsm := same_at (bs.take nB) (bs.take nB) AB B nB nB cB cb wB HBB.out.2.2 (HBB.out.2.1.take nB) hnB.out.1 hnB.out.1 (by unfold maxLen; omega) (by unfold maxLen; omega)
            rw [eqB_self] at hsm
            have HSM := Lib.hid hsm
            have hle9 : (nB : Int) ≤ (nb : Int) := by omega
            have hle8 : decide (nB ≤ nb) = true := decide_eq_true hu2
            clear hbB hoB hfB hsm
            simp only
            go_wp2_with fail
            refine HSM.out.mono ?_; rintro e wC ⟨rfl, qC, rfl⟩
            go_wp2
            go_ret
            exact ⟨rfl, bdrewN HBB.out.1 qC⟩
        | true =>
          obtain ⟨ks, hks, hfit, hlong, hp⟩ := putP_ok (by simpa using her)
          have her' : (putP s.data.toList (rs.map Wr.v)).2 = 0 := by simpa using her
          have hplen := putS_len ks (rs.map Wr.v) HW.out hlong
          have hk64 := schema_len hks
          have hmore := Lib.hid (take_more bs hks hfit HW.out hlong)
          generalize putP s.data.toList (rs.map Wr.v) = X at *
          obtain ⟨p, er⟩ := X
          simp only at hp her'
          subst her'
          rw [← hp] at hmore hplen
          clear her hks hfit hlong hp
          have hpb : p.length ≤ 19200000 := by omega
          have HPB := Lib.hid hpb
          refine hput.mono ?_; rintro e w3 ⟨hb3, A1, n1, c1, rfl, ho3, hf3⟩
          obtain ⟨A0, n0, c0, hv0, hn1, hle1, hmx1, hnil1⟩ := ho3.form
          cases hv0
          have HB3 : Hid (Below w.heap.size w w3 ∧ OwnA w3 5 1 encB (.slice A1 n1 c1) p ∧ VRd w3 A n rs ∧ BySl w3 w3.heap.size B bs) := ⟨ext_under HB2.out (Nat.le_refl _) hb3, ho3, HV.out.ext hb3, (HL.out.2.2.ext HB2.out).ext hb3⟩
          clear ho3 hf3 hb3 hplen hpb hput
          have a1 : Hid (p.length + bs.length ≤ maxLen) := by have := HPB.out; have := hnb.out; rw [Hid]; unfold maxLen; omega
          have a2 : Hid ((p.length + bs.length) * 1 ≤ 140737488355328) := by have := HPB.out; have := hnb.out; rw [Hid]; omega
          simp only
          go_wp2_with fail
          refine (copy_any p A1 n1 c1 w3 (HB3.out.2.1.sl encB_len) (by have := HPB.out; omega) hn1).mono ?_; rintro e w4 ⟨v4, rfl, ho4, hb4⟩
          obtain ⟨A4, n4, c4, rfl, hn4, hle4, hmx4⟩ := ho4.form
          have HB4 : Hid (OwnA w4 5 1 encB (.slice A4 n4 c4) p ∧ Below w3.heap.size w3 w4 ∧ ∀ k, (Value.slice A4 n4 c4).ownBlock = some k → w3.heap.size ≤ k) := ⟨OwnA.of_own ho4, hb4, fun k hk => (ho4.lt hk).1⟩
          clear ho4 hb4
          simp only
          go_wp2_with (at_builtin; refine wpList_append_a _ rfl _ _ _ rfl 5 i0 _ 1 1 Try.underlying22 hi hz0 hz1 hz2 rfl (by decide) encB_len encB_one _ p (by rfl) HB4.out.1 _ B bs nb cb (by rfl) hnb.out (HB3.out.2.2.2.ext HB4.out.2.1) a1.out a2.out ?_; intro v' w5 hown' hchg hat; obtain ⟨A5, n5, c5, rfl, hn5, hle5, hmx5, hnil5⟩ := hown'.form; have HA := Lib.hid (And.intro hown' (And.intro hchg hat)); clear hown' hchg hat)
          have HB5 : Hid (Below w3.heap.size w3 w5) := HB4.out.2.1.trans (HA.out.2.1.below HB4.out.2.1.size fun i hi hs => by have := HB4.out.2.2 _ hs; omega)
          have htk1 := take_any s (p ++ bs) A5 n5 c5 w5 hS.out (HA.out.1.sl encB_len) hn5 hle5 (by have := hn5.out; have := HPB.out; have := hnb.out; rw [List.length_append] at *; omega)
          rw [hmore.out] at htk1
          have HTK1 := Lib.hid htk1
          clear htk1
          refine HTK1.out.mono ?_; rintro e w6 ⟨hb6, A6, n6, c6, rs6, rfl, hr6, hv6⟩
          have HB6 : Hid (Below w3.heap.size w3 w6 ∧ VRd w6 A6 n6 rs6 ∧ rs6.map Wr.v = rs.map Wr.v) := ⟨ext_under HB5.out (Nat.le_refl _) hb6, hv6.rd (by have h := congrArg List.length hr6; simp only [List.length_map] at h; have := HG.out.2; omega), hr6⟩
          have hsv := Same_any rs rs6 A A6 n n6 cap c6 w6 (HB3.out.2.2.1.ext HB6.out.1) HB6.out.2.1
          rw [HB6.out.2.2, eqVs_self] at hsv
          have HSV := Lib.hid hsv
          have hpn : ((p.length : Int) != (n1 : Int)) = false := by rw [hn1.out]; simp
          have hpn2 : (p.length != n1) = false := by rw [hn1.out]; simp
          clear hb6 hr6 hv6 hsv
          simp only
          go_wp2_with fail
          refine HSV.out.mono ?_; rintro e W9 ⟨rfl, hb9⟩
          have HBW : Hid (Below w.heap.size w W9 ∧ BySl W9 W9.heap.size B bs) := by
            have h := ext_under HB6.out.1 (Nat.le_refl _) hb9
            exact ⟨ext_under HB3.out.1 (Nat.le_refl _) h, HB3.out.2.2.2.ext h⟩
          clear hb9
          simp only
          go_wp2_with fail
          cases her2 : (takeP s.data.toList bs).2.2 == 0 with
          | false =>
            have hx := takeP_err (by simpa using her2)
            have htk := take_any s bs B nb cb W9 hS.out HBW.out.2 hnb hcb (by omega)
            generalize takeP s.data.toList bs = X2 at *
            obtain ⟨v2, u2, er2⟩ := X2
            simp only at hx her2
            obtain ⟨rfl, rfl⟩ := hx
            refine htk.mono ?_; rintro e wA ⟨hbA, AA, nA, cA, rsA, rfl, hrA, hvA⟩
            have hnA : nA = 0 := by
              have h := hvA.own.len
              have h2 := congrArg List.length hrA
              rw [List.length_map] at h2
              rw [h, h2]; rfl
            subst hnA
            have HBA := Lib.hid (ext_under HBW.out.1 (Nat.le_refl _) hbA)
            have her3 : (er2 != 0) = true := by simpa using her2
            clear hbA hrA hvA htk
            simp only
            go_wp2
            go_ret
            exact ⟨rfl, HBA.out⟩
          | true =>
            obtain ⟨ks2, hks2, hts2⟩ := takeP_ok (by simpa using her2)
            have her3 : (takeP s.data.toList bs).2.2 = 0 := by simpa using her2
            have htk := take_any s bs B nb cb W9 hS.out HBW.out.2 hnb hcb (by omega)
            generalize takeP s.data.toList bs = X2 at *
            obtain ⟨v2, u2, er2⟩ := X2
            simp only at hts2 her3
            subst her3
            obtain ⟨g1, g2, g3, g4, g5⟩ := put_takeS ks2 _ _ _ hts2
            have hlen2 := takeS_len' ks2 _ _ _ hts2
            have hpp : putP s.data.toList v2 = (bs.take u2, 0) := by unfold putP; rw [hks2]; simp only; rw [if_pos g2, if_neg (by rw [g4]; simp), g1]
            have h64 := schema_len hks2
            refine htk.mono ?_; rintro e wA ⟨hbA, AA, nA, cA, rsA, rfl, hrA, hvA⟩
            simp only at hrA
            have HBA : Hid (Below w.heap.size w wA ∧ BySl wA wA.heap.size B bs) := ⟨ext_under HBW.out.1 (Nat.le_refl _) hbA, HBW.out.2.ext hbA⟩
            have hpu := put_any' s rsA AA nA cA wA hS.out (hvA.rd (by have h := congrArg List.length hrA; rw [List.length_map] at h; omega))
            rw [hrA, hpp] at hpu
            have HPU := Lib.hid hpu
            have hu2 : u2 ≤ nb := by rw [hnb.out]; exact g5
            clear hbA hrA hvA htk hpu g1 g2 g3 g4 g5 hpp hts2 hks2
            simp only
            go_wp2_with fail
            refine HPU.out.mono ?_; rintro e wB ⟨hbB, AB, nB, cB, rfl, hoB, hfB⟩
            have hnB : Hid (nB = (bs.take u2).length ∧ nB = u2) := ⟨hoB.len, by rw [hoB.len, List.length_take]; have := hnb.out; omega⟩
            have HBB : Hid (Below w.heap.size w wB ∧ BySl wB wB.heap.size B bs ∧ BySl wB wB.heap.size AB (bs.take u2)) := ⟨ext_under HBA.out.1 (Nat.le_refl _) hbB, HBA.out.2.ext hbB, hoB.sl encB_len⟩
            have hq9 : nB = u2 := hnB.out.2
            subst hq9
            have hsl : ∀ W, (Instr.slice 22 (.slice B nb cb) none (some (.int .i64 (nB : Int))) none).run Try.prog W = .ok (.slice B nB cb) W := fun W => by
              have := run_slice_hi (c := 1) Try.underlying22 (Option.isSome_iff_exists.1 (by kernel_rfl)) (by kernel_rfl) B nb cb (nB : Int) (by omega) (by omega) W
              simpa using this
            have hsm := same_at (bs.take nB) (bs.take nB) AB B nB nB cB cb wB HBB.out.2.2 (HBB.out.2.1.take nB) hnB.out.1 hnB.out.1 (by unfold maxLen; omega) (by unfold maxLen; omega)
            rw [eqB_self] at hsm
            have HSM := Lib.hid hsm
            have hle9 : (nB : Int) ≤ (nb : Int) := by omega
            have hle8 : decide (nB ≤ nb) = true := decide_eq_true hu2
            clear hbB hoB hfB hsm
            simp only
            go_wp2_with fail
            refine HSM.out.mono ?_; rintro e wC ⟨rfl, qC, rfl⟩
            go_wp2
            go_ret
            exact ⟨rfl, bdrewN HBB.out.1 qC⟩

set_option maxRecDepth 100000 in
theorem lifted (os : Os) (started : os.Started) (H : Type) (enc : TypeId × Value → H) :
    ReturnsInHanded {} Try.checked os 8 .any (Rows.wireBackSpec.pre6 enc Try.prog Try.f8 Rows.wireBackRow.domain false) (Rows.wireBackSpec.post enc Try.prog Try.f8 false true false false) := by
  refine returnsInHanded_of_change_sized (C := Try.checked) own started (by kernel_rfl) Try.func8
    (ChangeSpec.witness6 (enc := enc) (C := Try.checked) false ⟨#[], #[.string ByteArray.empty, .slice none 0 0, .slice none 0 0], []⟩ 8 (by kernel_rfl) (by kernel_rfl) (by kernel_rfl) (by kernel_rfl)) ?_
  intro W base args ds gs before hval0 hW hcnd hsz0 _
  have hval : ∀ (j : Nat) t v, Try.f8.params[j]? = some t → args[j]? = some v → Value.okWide Try.prog W .any base t v := hval0
  have hW' := hW
  obtain ⟨p, q, hA0, hV, rfl, hfz, hnd⟩ := hW
  have hA : DataW.TrodAll enc Try.prog W 0 (fun _ => true) true Try.f8.params.toList args.toList ds p := hA0
  have hsz : (DataW.weightsEach Try.prog (Try.f8.params.toList ++ []) (ds ++ gs)).all (· ≤ reachBytes) = true := hsz0
  rw [Try.params8] at hA hval hsz
  have hAll := hA
  obtain ⟨v0, vs0, d0, ds0, p0, q0, hargs, rfl, rfl, h0, r0⟩ := trodAll_cons hA
  obtain ⟨v1, vs1, d1, ds1, p1, q1, rfl, rfl, rfl, h1, r1⟩ := trodAll_cons r0
  obtain ⟨v2, vs2, d2, ds2, p2, q2, rfl, rfl, rfl, h2, r2⟩ := trodAll_cons r1
  obtain ⟨rfl, rfl, rfl⟩ := trodAll_nil r2
  obtain rfl : args = #[v0, v1, v2] := by cases args; simp_all
  obtain ⟨rfl, rfl⟩ := trodVars_none hV
  obtain ⟨s, rfl, _, _, _⟩ := ChangeMaps.open_string Try.underlying9 (hval 0 9 v0 rfl rfl) h0
  obtain ⟨l_A, l, l_cap, rfl, l_sl, l_ok, l_le, l_max, l_reach, l_nil⟩ := open_sl Try.underlying24 (c := 5) (by kernel_rfl) (by decide) opens_val (hval 1 24 v1 rfl rfl) h1 (light_of hsz (j := 1) rfl rfl)
  obtain ⟨b_A, b, b_cap, rfl, b_sl, b_ok, b_le, b_max, b_reach, b_nil⟩ := open_sl Try.underlying22 (c := 1) (by kernel_rfl) (by decide) opens_u8 (hval 2 22 v2 rfl rfl) h2 (light_of hsz (j := 2) rfl rfl)
  refine (walk s l l_A l.length l_cap b b_A b.length b_cap W l_sl l_ok rfl (Nat.le_trans l_le l_max) b_sl rfl b_le).mono fun e W' ⟨he, bel⟩ => ?_
  subst he
  exact ⟨_, rfl, _, _, _, [], _, [], hW', trodAll_mk1 (shut_bool Try.underlying4 _), keep_args laidOut bel (by kernel_rfl) hAll, rfl, bel.frame _, fun h => by cases h⟩

theorem over : Rows.wireBackRow.holds Try.pinned (OpenSpec.ofChange Rows.wireBackSpec) :=
  OpenClaim.holds_of_wide 8 Try.f8 rfl rfl rfl rfl rfl rfl rfl ⟨rfl, rfl, rfl, rfl, rfl⟩ rfl rfl rfl rfl rfl (by kernel_rfl) Try.func8 (by kernel_rfl)
    (of_decide_eq_true (by kernel_rfl)) (by unfold Func.isWrapper; first | (rw [if_pos (by decide +kernel)]; kernel_rfl) | (rw [if_neg (by decide +kernel)]; exact ⟨rfl, rfl⟩))
    (fun os started H enc _ => lifted os started H enc)

theorem proved : Rows.WireBackSaid := over
#print axioms proved
end Go.Proofs.Ytiommdidkhohgaa.lawBack
