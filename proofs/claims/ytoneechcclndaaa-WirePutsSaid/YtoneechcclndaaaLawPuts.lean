/- WirePuts: any values by any schema have the form that the chapter says, or none; they stay; rows are the same, or not: whatever the input, the law returns true and leaves its arguments as they were. -/
import Derived.Test.YtoneechcclndaaaRPutD
import Derived.Test.YtoneechcclndaaaTornP
import Derived.ChangeMaps5
import Derived.Outline
import Derived.BigQuiet
import Derived.Deep.QuietTactic
import Derived.Deep.RegionWith
import Derived.Deep.RegionHeld3
import Derived.Deep.DrawnRows
import Derived.Deep.LoopGhost
import Derived.Deep.DeepCutAuto
import Derived.Laws.EntriesVeiled
namespace Go.Proofs.Ytoneechcclndaaa.lawPuts
open Go.RowKit Go.ChangeShapes Go.WideShapes Go.ChangeAt
set_option linter.unusedVariables false
set_option linter.unusedSimpArgs false
attribute [local go_sem ↓] Go.wp_at_zero Go.wp_at_succ
open Wire Word Bytes Go.Shelf lawTorn

theorem putP_le {sl : List UInt8} {vs : List WV} (hw : ∀ v ∈ vs, v.Wf) : (putP sl vs).1.length ≤ 19200000 := by
  by_cases h : (putP sl vs).2 = 0
  · obtain ⟨ks, hs, hf, hl, he⟩ := putP_ok h
    rw [he]
    have h1 := putS_len ks vs hw hl
    have h2 := schema_len hs
    omega
  · rw [putP_err h]; simp
/-- what the law keeps: its rows, which may be read -/
structure PW (w W : World) (ls ms qs : List Wr) (A B C : Option Addr) (n m c : Nat) : Prop where
  l : VRd W A n ls
  m : VRd W B m ms
  q : VRd W C c qs
  be : Below w.heap.size w W
theorem PW.ext {w W W' : World} {ls ms qs : List Wr} {A B C : Option Addr} {n m c : Nat} (h : PW w W ls ms qs A B C n m c) (hb : Below W.heap.size W W') : PW w W' ls ms qs A B C n m c := ⟨h.l.ext hb, h.m.ext hb, h.q.ext hb, ext_under h.be (Nat.le_refl _) hb⟩
theorem great_rd {rs : List Wr} {A : Option Addr} {n : Nat} {w : World} (hl : Sl w w.heap.size 5 Wr.cells A rs) (hr : ∀ r ∈ rs, r.In w) (hn : Hid (n = rs.length)) (hg : greatB rs 0 = false) : VRd w A n rs := by
  have HG : (∀ r ∈ rs, r.bn ≤ 4000 ∧ r.ln ≤ 4000) ∧ rs.length ≤ 400 := by
    rcases great_no rs 0 hg with ⟨h1, h2⟩ | rfl
    · exact ⟨h1, by omega⟩
    · exact ⟨by simp, by simp⟩
  exact ⟨hl, hn, fun r h => (hr r h).rd (by have := (HG.1 r h).1; omega) (by have := (HG.1 r h).2; omega), by omega⟩
set_option maxHeartbeats 4000000 in
theorem walk (s : ByteArray) (rs ms : List Wr) (A B : Option Addr) (n cap m cb : Nat) (w : World) (hl : Sl w w.heap.size 5 Wr.cells A rs) (hr : ∀ r ∈ rs, r.In w) (hn : Hid (n = rs.length)) (hm : n ≤ maxLen)
    (hl2 : Sl w w.heap.size 5 Wr.cells B ms) (hr2 : ∀ r ∈ ms, r.In w) (hn2 : Hid (m = ms.length)) (hm2 : m ≤ maxLen) :
    Calls Try.prog 3 #[.string s, .slice A n cap, .slice B m cb] w fun e w' => e = .returned (.bool true) ∧ Below w.heap.size w w' := by
  have HL := Lib.hid (And.intro hl (And.intro hr (And.intro hl2 hr2)))
  clear hl hr hl2 hr2
  by_cases hs : 100 < s.size
  · have h1 : decide ((100 : Int) < (s.size : Int)) = true := decide_eq_true (by omega)
    go_enter Try.func3, Try.ntmps3
    go_wp2
    go_ret
    exact ⟨rfl, Below.refl _ _⟩
  · have h1 : decide ((100 : Int) < (s.size : Int)) = false := decide_eq_false (by omega)
    have hss : s.data.toList.length ≤ 1000000 := by have : s.size = s.data.toList.length := rfl; omega
    have hS := Lib.hid hss
    have hg := great_any rs A n cap w HL.out.1 HL.out.2.1 hn hm
    cases hgb : greatB rs 0 with
    | true =>
      rw [hgb] at hg
      have HG := Lib.hid hg
      clear hg hgb
      go_enter Try.func3, Try.ntmps3
      go_wp2_with (go_at_call 16; refine HG.out.mono ?_; rintro e w2 ⟨rfl, k2, rfl⟩)
      go_ret
      exact ⟨rfl, bdrewN (Below.refl _ _) k2⟩
    | false =>
      rw [hgb] at hg
      have HG := Lib.hid hg
      have hg2 : ∀ W, Below w.heap.size w W → Calls Try.prog 16 #[.slice B m cb] W fun e w' => e = .returned (.bool (greatB ms 0)) ∧ ∃ k, w' = W.drewN k := fun W hW =>
        great_any ms B m cb W (HL.out.2.2.1.ext hW) (fun r hr => in_ext (HL.out.2.2.2 r hr) hW) hn2 hm2
      cases hgc : greatB ms 0 with
      | true =>
        rw [hgc] at hg2
        have HG2 := Lib.hid hg2
        clear hg hgb hg2 hgc
        go_enter Try.func3, Try.ntmps3
        go_wp2_with fail
        refine HG.out.mono ?_; rintro e w2 ⟨rfl, k2, rfl⟩
        have HB := Lib.hid (bdrewN (Below.refl w.heap.size w) k2)
        generalize w.drewN k2 = w2 at *
        go_wp2_with fail
        refine (HG2.out _ HB.out).mono ?_; rintro e w3 ⟨rfl, k3, rfl⟩
        go_wp2
        go_ret
        exact ⟨rfl, bdrewN HB.out k3⟩
      | false =>
        rw [hgc] at hg2
        have HG2 := Lib.hid hg2
        have HV : Hid (∀ W, Below w.heap.size w W → VRd W A n rs ∧ VRd W B m ms) := fun W hW =>
          ⟨great_rd (HL.out.1.ext hW) (fun r hr => in_ext (HL.out.2.1 r hr) hW) hn hgb, great_rd (HL.out.2.2.1.ext hW) (fun r hr => in_ext (HL.out.2.2.2 r hr) hW) hn2 hgc⟩
        have HPL := Lib.hid (putP_le (sl := s.data.toList) (all_wf (HV.out w (Below.refl _ _)).1.rd))
        clear hg hgb hg2 hgc
        go_enter Try.func3, Try.ntmps3
        go_wp2_with fail
        refine HG.out.mono ?_; rintro e w2 ⟨rfl, k2, rfl⟩
        have HB := Lib.hid (bdrewN (Below.refl w.heap.size w) k2)
        generalize w.drewN k2 = w2 at *
        go_wp2_with fail
        refine (HG2.out _ HB.out).mono ?_; rintro e w3 ⟨rfl, k3, rfl⟩
        have HB3 := Lib.hid (bdrewN HB.out k3)
        generalize w2.drewN k3 = w3 at *
        have HV3 := Lib.hid (HV.out _ HB3.out)
        go_wp2_with fail
        refine (rcopy4_any rs A n cap w3 HV3.out.1).mono ?_; rintro e w4 ⟨hb4, C, c, cc, qs, rfl, hqs, hvo⟩
        have HQ : Hid (qs.map Wr.v = rs.map Wr.v) := hqs
        have T4 : Hid (PW w w4 rs ms qs A B C n m c) := ⟨HV3.out.1.ext hb4, HV3.out.2.ext hb4, hvo.rd (by have h := congrArg List.length hqs; simp only [List.length_map] at h; have := HV3.out.1.le; omega), ext_under HB3.out (Nat.le_refl _) hb4⟩
        clear hb4 hqs hvo
        have hp1 := put_any' s qs C c cc w4 hS.out T4.out.q
        have hp2 := Lib.hid (fun W h => rput4_any s rs A n cap W hS.out h)
        rw [HQ.out] at hp1
        generalize putP s.data.toList (rs.map Wr.v) = X at *
        obtain ⟨p, er⟩ := X
        simp only at HPL
        go_wp2_with fail
        refine hp1.mono ?_; rintro e w5 ⟨hb5, D1, d1, dc1, rfl, ho1, hf1⟩
        have T5 := Lib.hid (T4.out.ext hb5)
        have HO1 := Lib.hid ho1
        clear hb5 ho1 hf1 hp1
        go_wp2_with fail
        refine (hp2.out _ T5.out.l).mono ?_; rintro e w6 ⟨hb6, D2, d2, dc2, rfl, ho2, hf2⟩
        have T6 := Lib.hid (T5.out.ext hb6)
        have hd1 : Hid (d1 = p.length) := HO1.out.len
        have hd2 : Hid (d2 = p.length) := ho2.len
        have hsm := same_at p p D1 D2 d1 d2 dc1 dc2 w6 ((HO1.out.ext hb6).sl encB_len) (ho2.sl encB_len) hd1 hd2 (by have := HPL.out; have := hd1.out; unfold maxLen; omega) (by have := HPL.out; have := hd2.out; unfold maxLen; omega)
        rw [eqB_self] at hsm
        clear hb6 ho2 hf2
        go_wp2_with fail
        refine hsm.mono ?_; rintro e w7 ⟨rfl, k7, rfl⟩
        have T7 := Lib.hid (T6.out.ext (bdrewN (Below.refl w6.heap.size w6) k7))
        generalize w6.drewN k7 = w7 at *
        have hs1 := rSame_any qs rs C A c n cc cap w7 T7.out.q T7.out.l
        rw [HQ.out, eqVs_self] at hs1
        clear hsm
        go_wp2_with fail
        refine hs1.mono ?_; rintro e w8 ⟨rfl, hb8⟩
        have T8 := Lib.hid (T7.out.ext hb8)
        clear hb8 hs1
        have hs2 := Same_any rs ms A B n m cap cb w8 T8.out.l T8.out.m
        have hs3 := Lib.hid (fun W hl hm => rSame_any rs ms A B n m cap cb W hl hm)
        generalize eqVs (rs.map Wr.v) (ms.map Wr.v) = q at *
        go_wp2_with fail
        refine hs2.mono ?_; rintro e w9 ⟨rfl, hb9⟩
        have T9 := Lib.hid (T8.out.ext hb9)
        clear hb9 hs2
        go_wp2_with fail
        refine (hs3.out _ T9.out.l T9.out.m).mono ?_; rintro e wA ⟨rfl, hbA⟩
        have TA := Lib.hid (T9.out.ext hbA)
        clear hbA
        have hs4 := Same_any rs qs A C n c cap cc wA TA.out.l TA.out.q
        rw [HQ.out, eqVs_self] at hs4
        go_wp2_with fail
        refine hs4.mono ?_; rintro e wB ⟨rfl, hbB⟩
        have TB := Lib.hid (TA.out.ext hbB)
        clear hbB
        go_wp2
        go_ret
        exact ⟨rfl, TB.out.be⟩
set_option maxRecDepth 100000 in
theorem lifted (os : Os) (started : os.Started) (H : Type) (enc : TypeId × Value → H) :
    ReturnsInHanded {} Try.checked os 3 .any (Rows.wirePutsSpec.pre6 enc Try.prog Try.f3 Rows.wirePutsRow.domain false) (Rows.wirePutsSpec.post enc Try.prog Try.f3 false true false false) := by
  refine returnsInHanded_of_change_sized (C := Try.checked) own started (by kernel_rfl) Try.func3
    (ChangeSpec.witness6 (enc := enc) (C := Try.checked) false ⟨#[], #[.string ByteArray.empty, .slice none 0 0, .slice none 0 0], []⟩ 8 (by kernel_rfl) (by kernel_rfl) (by kernel_rfl) (by kernel_rfl)) ?_
  intro W base args ds gs before hval0 hW hcnd hsz0 _
  have hval : ∀ (j : Nat) t v, Try.f3.params[j]? = some t → args[j]? = some v → Value.okWide Try.prog W .any base t v := hval0
  have hW' := hW
  obtain ⟨p, q, hA0, hV, rfl, hfz, hnd⟩ := hW
  have hA : DataW.TrodAll enc Try.prog W 0 (fun _ => true) true Try.f3.params.toList args.toList ds p := hA0
  have hsz : (DataW.weightsEach Try.prog (Try.f3.params.toList ++ []) (ds ++ gs)).all (· ≤ reachBytes) = true := hsz0
  rw [Try.params3] at hA hval hsz
  have hAll := hA
  obtain ⟨v0, vs0, d0, ds0, p0, q0, hargs, rfl, rfl, h0, r0⟩ := trodAll_cons hA
  obtain ⟨v1, vs1, d1, ds1, p1, q1, rfl, rfl, rfl, h1, r1⟩ := trodAll_cons r0
  obtain ⟨v2, vs2, d2, ds2, p2, q2, rfl, rfl, rfl, h2, r2⟩ := trodAll_cons r1
  obtain ⟨rfl, rfl, rfl⟩ := trodAll_nil r2
  obtain rfl : args = #[v0, v1, v2] := by cases args; simp_all
  obtain ⟨rfl, rfl⟩ := trodVars_none hV
  obtain ⟨s, rfl, _, _, _⟩ := ChangeMaps.open_string Try.underlying9 (hval 0 9 v0 rfl rfl) h0
  obtain ⟨l_A, l, l_cap, rfl, l_sl, l_ok, l_le, l_max, l_reach, l_nil⟩ := open_sl Try.underlying22 (c := 5) (by kernel_rfl) (by decide) opens_val (hval 1 22 v1 rfl rfl) h1 (light_of hsz (j := 1) rfl rfl)
  obtain ⟨m_A, m, m_cap, rfl, m_sl, m_ok, m_le, m_max, m_reach, m_nil⟩ := open_sl Try.underlying22 (c := 5) (by kernel_rfl) (by decide) opens_val (hval 2 22 v2 rfl rfl) h2 (light_of hsz (j := 2) rfl rfl)
  refine (walk s l m l_A m_A l.length l_cap m.length m_cap W l_sl l_ok rfl (Nat.le_trans l_le l_max) m_sl m_ok rfl (Nat.le_trans m_le m_max)).mono fun e W' ⟨he, bel⟩ => ?_
  subst he
  exact ⟨_, rfl, _, _, _, [], _, [], hW', trodAll_mk1 (shut_bool Try.underlying4 _), keep_args laidOut bel (by kernel_rfl) hAll, rfl, bel.frame _, fun h => by cases h⟩

theorem over : Rows.wirePutsRow.holds Try.pinned (OpenSpec.ofChange Rows.wirePutsSpec) :=
  OpenClaim.holds_of_wide 3 Try.f3 rfl rfl rfl rfl rfl rfl rfl ⟨rfl, rfl, rfl, rfl, rfl⟩ rfl rfl rfl rfl rfl (by kernel_rfl) Try.func3 (by kernel_rfl)
    (of_decide_eq_true (by kernel_rfl)) (by unfold Func.isWrapper; first | (rw [if_pos (by decide +kernel)]; kernel_rfl) | (rw [if_neg (by decide +kernel)]; exact ⟨rfl, rfl⟩))
    (fun os started H enc _ => lifted os started H enc)

theorem proved : Rows.WirePutsSaid := over
#print axioms proved
end Go.Proofs.Ytoneechcclndaaa.lawPuts
