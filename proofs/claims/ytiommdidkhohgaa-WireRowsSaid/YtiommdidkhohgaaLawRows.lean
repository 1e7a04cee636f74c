/- WireRows: by two schemas, one behind the other, values have the forms by each of them, one behind the other, and are taken so: whatever the input, the law returns true and leaves its arguments as they were. -/
import Derived.Test.YtiommdidkhohgaaLawTorn
import Derived.Test.YtiommdidkhohgaaPe
import Derived.ChangeMaps5
import Derived.Outline
import Derived.BigQuiet
import Derived.Deep.QuietTactic
import Derived.Deep.RegionWith
import Derived.Deep.RegionHeld3
import Derived.Deep.DrawnRows
import Derived.Deep.LoopGhost
import Derived.Deep.DeepCutAuto
import Derived.Laws.EntriesVeiled
namespace Go.Proofs.Ytiommdidkhohgaa.lawRows
open Go.RowKit Go.ChangeShapes Go.WideShapes Go.ChangeAt
set_option linter.unusedVariables false
set_option linter.unusedSimpArgs false
attribute [local go_sem ↓] Go.wp_at_zero Go.wp_at_succ
open Wire Word Bytes Go.Shelf lawTorn

theorem data_append (s t : ByteArray) : (s ++ t).data.toList = s.data.toList ++ t.data.toList := by simp [ByteArray.data_append]
theorem longs_append {vs us : List WV} (h1 : vs.any longV = false) (h2 : us.any longV = false) : (vs ++ us).any longV = false := by simp_all
theorem schema_kds {s : List UInt8} {ks : List Kd} (h : schemaP s = some ks) : kdsOf s = some ks := by
  unfold schemaP at h
  split at h
  · exact h
  · cases h
theorem schema_append {s t : List UInt8} {ks ls : List Kd} (h1 : schemaP s = some ks) (h2 : schemaP t = some ls) (hl : s.length + t.length ≤ 64) : schemaP (s ++ t) = some (ks ++ ls) := by
  unfold schemaP
  rw [if_pos (by rw [List.length_append]; exact hl), kds_append s t ks ls (schema_kds h1) (schema_kds h2)]
theorem take_more' {sl : List UInt8} {ks : List Kd} {vs : List WV} (b : List UInt8) (hs : schemaP sl = some ks) (hf : fitsS ks vs = true) (hw : ∀ v ∈ vs, v.Wf) (hl : vs.any longV = false) : takeP sl (putS ks vs ++ b) = (vs, (putS ks vs).length, 0) := by
  unfold takeP
  rw [hs]
  simp only
  rw [takeS_put ks vs b hf hw hl]
  rfl
theorem whole_put {sl : List UInt8} {ks : List Kd} {vs : List WV} (hs : schemaP sl = some ks) (hf : fitsS ks vs = true) (hw : ∀ v ∈ vs, v.Wf) (hl : vs.any longV = false) : wholeP sl (putS ks vs) = (vs, 0) := by
  have h := take_more' [] hs hf hw hl
  rw [List.append_nil] at h
  unfold wholeP
  rw [h]
  simp
theorem great_parts {rs : List Wr} (h : greatB rs 0 = false) : (∀ r ∈ rs, r.bn ≤ 4000 ∧ r.ln ≤ 4000) ∧ rs.length ≤ 400 := by
  rcases great_no rs 0 h with ⟨h1, h2⟩ | rfl
  · exact ⟨h1, by omega⟩
  · exact ⟨by simp, by simp⟩
theorem rd_of {w : World} {rs : List Wr} {A : Option Addr} {n : Nat} (hl : Sl w w.heap.size 5 Wr.cells A rs) (hr : ∀ r ∈ rs, r.In w) (hn : Hid (n = rs.length)) (h : (∀ r ∈ rs, r.bn ≤ 4000 ∧ r.ln ≤ 4000) ∧ rs.length ≤ 400) : VRd w A n rs :=
  ⟨hl, hn, fun r hx => (hr r hx).rd (by have := (h.1 r hx).1; omega) (by have := (h.1 r hx).2; omega), by omega⟩

theorem up_append {w5 w6 w7 : World} {v v' : Value} (hb : Below w5.heap.size w5 w6) (hf : ∀ k, v.ownBlock = some k → w5.heap.size ≤ k) (hc : Chg (fun k => v.ownBlock = some k) w6 w7) (hat : v'.ownBlock = v.ownBlock ∨ v'.ownBlock = some w6.heap.size) :
    Below w5.heap.size w5 w7 ∧ ∀ k, v'.ownBlock = some k → w5.heap.size ≤ k :=
  ⟨hb.trans (hc.below hb.size (fun i hi hs => by have := hf _ hs; omega)), fun k hk => by
    rcases hat with h | h
    · exact hf k (h ▸ hk)
    · rw [h] at hk; injection hk with hk; have := hb.size; omega⟩

set_option maxHeartbeats 16000000 in
theorem walk (s t : ByteArray) (rs ms : List Wr) (A : Option Addr) (n cap : Nat) (B : Option Addr) (m cb : Nat) (w : World) (hl : Sl w w.heap.size 5 Wr.cells A rs) (hr : ∀ r ∈ rs, r.In w) (hn : Hid (n = rs.length)) (hmx : n ≤ maxLen)
    (hl2 : Sl w w.heap.size 5 Wr.cells B ms) (hr2 : ∀ r ∈ ms, r.In w) (hm : Hid (m = ms.length)) (hmx2 : m ≤ maxLen) :
    Calls Try.prog 9 #[.string s, .string t, .slice A n cap, .slice B m cb] w fun e w' => e = .returned (.bool true) ∧ Below w.heap.size w w' := by
  have HL := Lib.hid (And.intro (And.intro hl hr) (And.intro hl2 hr2))
  obtain ⟨i0, hi, hz0, hz1, hz2⟩ := info_parts Word.byInfo
  obtain ⟨j0, hj, hy0, hy1, hy2⟩ := info_parts vInfo
  clear hl hr hl2 hr2
  by_cases hs : 32 < s.size
  · have h1 : decide ((32 : Int) < (s.size : Int)) = true := decide_eq_true (by omega)
    go_enter Try.func9, Try.ntmps9
    go_wp2_with fail
    refine (awake_any w).mono ?_; rintro e w1 ⟨rfl, hb1⟩
    go_wp2
    go_ret
    exact ⟨rfl, hb1⟩
  · have h1 : decide ((32 : Int) < (s.size : Int)) = false := decide_eq_false (by omega)
    by_cases ht : 32 < t.size
    · have h2 : decide ((32 : Int) < (t.size : Int)) = true := decide_eq_true (by omega)
      go_enter Try.func9, Try.ntmps9
      go_wp2_with fail
      refine (awake_any w).mono ?_; rintro e w1 ⟨rfl, hb1⟩
      go_wp2
      go_ret
      exact ⟨rfl, hb1⟩
    · have h2 : decide ((32 : Int) < (t.size : Int)) = false := decide_eq_false (by omega)
      have hss : s.data.toList.length ≤ 32 := by have : s.size = s.data.toList.length := rfl; omega
      have htt : t.data.toList.length ≤ 32 := by have : t.size = t.data.toList.length := rfl; omega
      have hsum : ¬ (s.size + t.size > 9223372036854775807) := by omega
      have HS : Hid (s.data.toList.length ≤ 32 ∧ t.data.toList.length ≤ 32) := ⟨hss, htt⟩
      clear hss htt
      go_enter Try.func9, Try.ntmps9
      go_wp2_with fail
      refine (awake_any w).mono ?_; rintro e w1 ⟨rfl, hb1⟩
      have HB1 := Lib.hid hb1
      clear hb1
      go_wp2_with fail
      have hg := great_any rs A n cap w1 (HL.out.1.1.ext HB1.out) (fun r hr => in_ext (HL.out.1.2 r hr) HB1.out) hn hmx
      cases hgb : greatB rs 0 with
      | true =>
        rw [hgb] at hg
        refine hg.mono ?_; rintro e w2 ⟨rfl, k2, rfl⟩
        go_wp2
        go_ret
        exact ⟨rfl, bdrewN HB1.out k2⟩
      | false =>
        rw [hgb] at hg
        refine hg.mono ?_; rintro e w2 ⟨rfl, k2, rfl⟩
        have HB2 : Hid (Below w.heap.size w (w1.drewN k2)) := bdrewN HB1.out k2
        generalize w1.drewN k2 = w2 at *
        go_wp2_with fail
        have hg2 := great_any ms B m cb w2 (HL.out.2.1.ext HB2.out) (fun r hr => in_ext (HL.out.2.2 r hr) HB2.out) hm hmx2
        cases hgb2 : greatB ms 0 with
        | true =>
          rw [hgb2] at hg2
          refine hg2.mono ?_; rintro e w3 ⟨rfl, k3, rfl⟩
          go_wp2
          go_ret
          exact ⟨rfl, bdrewN HB2.out k3⟩
        | false =>
          rw [hgb2] at hg2
          refine hg2.mono ?_; rintro e w3 ⟨rfl, k3, rfl⟩
          have HB3 : Hid (Below w.heap.size w (w2.drewN k3)) := bdrewN HB2.out k3
          generalize w2.drewN k3 = w3 at *
          have HG := Lib.hid (And.intro (great_parts hgb) (great_parts hgb2))
          clear hg hg2 hgb hgb2
          have HR : Hid (∀ W, Below w.heap.size w W → VRd W A n rs ∧ VRd W B m ms) := fun W hW => ⟨rd_of (HL.out.1.1.ext hW) (fun r hr => in_ext (HL.out.1.2 r hr) hW) hn HG.out.1, rd_of (HL.out.2.1.ext hW) (fun r hr => in_ext (HL.out.2.2 r hr) hW) hm HG.out.2⟩
          have HW := Lib.hid (And.intro (all_wf (HR.out w (Below.refl _ _)).1.rd) (all_wf (HR.out w (Below.refl _ _)).2.rd))
          have hput := put_any' s rs A n cap w3 (by have := HS.out.1; omega) (HR.out w3 HB3.out).1
          go_wp2_with fail
          cases her : (putP s.data.toList (rs.map Wr.v)).2 == 0 with
          | false =>
            generalize putP s.data.toList (rs.map Wr.v) = X at *
            obtain ⟨p, er⟩ := X
            simp only at her
            have her3 : (er != 0) = true := by simpa using her
            refine hput.mono ?_; rintro e w4 ⟨hb4, A1, n1, c1, rfl, ho4, hf4⟩
            have HB4 := Lib.hid (ext_under HB3.out (Nat.le_refl _) hb4)
            clear hb4 ho4 hf4 hput
            simp only
            go_wp2_with fail
            refine (put_any' t ms B m cb w4 (by have := HS.out.2; omega) (HR.out w4 HB4.out).2).mono ?_; rintro e w5 ⟨hb5, A2, n2, c2, rfl, ho5, hf5⟩
            have HB5 := Lib.hid (ext_under HB4.out (Nat.le_refl _) hb5)
            clear hb5 ho5 hf5
            go_wp2
            go_ret
            exact ⟨rfl, HB5.out⟩
          | true =>
            obtain ⟨ks, hks, hfit, hlong, hp⟩ := putP_ok (by simpa using her)
            have her' : (putP s.data.toList (rs.map Wr.v)).2 = 0 := by simpa using her
            have HP := Lib.hid (And.intro hks (And.intro hfit hlong))
            have hplen := putS_len ks (rs.map Wr.v) HW.out.1 hlong
            have hk64 := schema_len hks
            generalize putP s.data.toList (rs.map Wr.v) = X at *
            obtain ⟨p, er⟩ := X
            simp only at hp her'
            subst her'
            have HPQ : Hid (p = putS ks (rs.map Wr.v) ∧ p.length ≤ 19200000) := ⟨hp, by rw [hp]; omega⟩
            clear hks hfit hlong hp hplen hk64 her
            refine hput.mono ?_; rintro e w4 ⟨hb4, A1, n1, c1, rfl, ho4, hf4⟩
            have HB4 := Lib.hid (And.intro (ext_under HB3.out (Nat.le_refl _) hb4) ho4)
            have hn1 : Hid (n1 = p.length) := ho4.len
            clear hb4 ho4 hf4 hput
            have hput := put_any' t ms B m cb w4 (by have := HS.out.2; omega) (HR.out w4 HB4.out.1).2
            simp only
            go_wp2_with fail
            cases her : (putP t.data.toList (ms.map Wr.v)).2 == 0 with
            | false =>
              generalize putP t.data.toList (ms.map Wr.v) = X at *
              obtain ⟨q, er⟩ := X
              simp only at her
              have her3 : (er != 0) = true := by simpa using her
              refine hput.mono ?_; rintro e w5 ⟨hb5, A2, n2, c2, rfl, ho5, hf5⟩
              have HB5 := Lib.hid (ext_under HB4.out.1 (Nat.le_refl _) hb5)
              clear hb5 ho5 hf5 hput
              simp only
              go_wp2
              go_ret
              exact ⟨rfl, HB5.out⟩
            | true =>
              obtain ⟨ls, hls, hfit, hlong, hp⟩ := putP_ok (by simpa using her)
              have her' : (putP t.data.toList (ms.map Wr.v)).2 = 0 := by simpa using her
              have HQ := Lib.hid (And.intro hls (And.intro hfit hlong))
              have hplen := putS_len ls (ms.map Wr.v) HW.out.2 hlong
              have hk64 := schema_len hls
              generalize putP t.data.toList (ms.map Wr.v) = X at *
              obtain ⟨q, er⟩ := X
              simp only at hp her'
              subst her'
              have HQQ : Hid (q = putS ls (ms.map Wr.v) ∧ q.length ≤ 19200000) := ⟨hp, by rw [hp]; omega⟩
              clear hls hfit hlong hp hplen hk64 her
              refine hput.mono ?_; rintro e w5 ⟨hb5, A2, n2, c2, rfl, ho5, hf5⟩
              obtain ⟨A20, n20, c20, hv20, hn2, hle2, hmx2', hnil2⟩ := ho5.form
              cases hv20
              have HB5 := Lib.hid (And.intro (ext_under HB4.out.1 (Nat.le_refl _) hb5) (And.intro (HB4.out.2.ext hb5) ho5))
              clear hb5 ho5 hf5 hput
              -- the plain facts
              have hfa := fits_append ks ls (rs.map Wr.v) (ms.map Wr.v) HP.out.2.1 HQ.out.2.1
              have hwf : ∀ v ∈ rs.map Wr.v ++ ms.map Wr.v, v.Wf := by
                intro v hv
                rcases List.mem_append.1 hv with h | h
                · exact HW.out.1 v h
                · exact HW.out.2 v h
              have hsch := schema_append HP.out.1 HQ.out.1 (by have := HS.out; omega)
              have HPA : Hid (putP (s ++ t).data.toList ((rs ++ ms).map Wr.v) = (p ++ q, 0)) := by
                rw [Hid, data_append]
                unfold putP
                rw [hsch]
                simp only
                rw [List.map_append, if_pos hfa.1, if_neg (by rw [longs_append HP.out.2.2 HQ.out.2.2]; simp), hfa.2, ← HPQ.out.1, ← HQQ.out.1]
              have HTK : Hid (takeP s.data.toList (p ++ q) = (rs.map Wr.v, p.length, 0)) := by
                rw [Hid, HPQ.out.1]; exact take_more' q HP.out.1 HP.out.2.1 HW.out.1 HP.out.2.2
              have HWH : Hid (wholeP t.data.toList q = (ms.map Wr.v, 0)) := by
                rw [Hid, HQQ.out.1]; exact whole_put HQ.out.1 HQ.out.2.1 HW.out.2 HQ.out.2.2
              clear hfa hwf hsch
              have a1 : Hid (([] : List Wr).length + rs.length ≤ maxLen) := by have := HG.out.1.2; rw [Hid]; simp only [List.length_nil]; unfold maxLen; omega
              have a2 : Hid ((([] : List Wr).length + rs.length) * 72 ≤ 140737488355328) := by have := HG.out.1.2; rw [Hid]; simp only [List.length_nil]; omega
              have a3 : Hid (rs.length + ms.length ≤ maxLen) := by have := HG.out; rw [Hid]; unfold maxLen; omega
              have a4 : Hid ((rs.length + ms.length) * 72 ≤ 140737488355328) := by have := HG.out; rw [Hid]; omega
              simp only
              go_wp2_with (first | (at_make; refine wpList_make_own _ rfl _ _ 24 rfl w.heap.size 34 j0 _ 5 Try.underlying24 hj hy0 hy1 _ _ _ 64 rfl rfl (by rfl) (by rw [hy2]; decide) (by decide) HB5.out.1.size ?_; intro w6 hmk hgr; have HM : Hid (OwnA w6 34 5 Wr.cells (.slice (some ⟨w5.heap.size, 0, none⟩) 0 64) ([] : List Wr) ∧ Below w5.heap.size w5 w6) := ⟨OwnA.of_own (base := w.heap.size) hmk, (Below.refl _ _).grown hgr (Nat.le_refl _) (by simp)⟩; clear hmk hgr) | (at_builtin; refine wpList_append_a _ rfl _ _ _ rfl 34 j0 _ 5 72 Try.underlying24 hj hy0 hy1 hy2 rfl (by decide) Wr.cells_len Wr.cells_one _ ([] : List Wr) (by rfl) HM.out.1 _ A rs n cap (by rfl) hn.out (HR.out _ (ext_under HB5.out.1 (Nat.le_refl _) HM.out.2)).1.sl a1.out a2.out ?_; intro v' w7 hown' hchg hat; obtain ⟨A7, n7, c7, rfl, hn7, hle7, hmx7, hnil7⟩ := hown'.form; have HA7 : Hid (OwnA w7 34 5 Wr.cells (.slice A7 n7 c7) rs ∧ Below w5.heap.size w5 w7 ∧ ∀ k, (Value.slice A7 n7 c7).ownBlock = some k → w5.heap.size ≤ k) := ⟨hown', up_append HM.out.2 (by simp [Value.ownBlock]) hchg hat⟩; clear hown' hchg hat) | (at_builtin; refine wpList_append_a _ rfl _ _ _ rfl 34 j0 _ 5 72 Try.underlying24 hj hy0 hy1 hy2 rfl (by decide) Wr.cells_len Wr.cells_one _ rs (by rfl) HA7.out.1 _ B ms m cb (by rfl) hm.out (HR.out _ (ext_under HB5.out.1 (Nat.le_refl _) HA7.out.2.1)).2.sl a3.out a4.out ?_; intro v' w8 hown' hchg hat; obtain ⟨A8, n8, c8, rfl, hn8, hle8, hmx8, hnil8⟩ := hown'.form; have HA8 : Hid (OwnA w8 34 5 Wr.cells (.slice A8 n8 c8) (rs ++ ms) ∧ Below w5.heap.size w5 w8 ∧ ∀ k, (Value.slice A8 n8 c8).ownBlock = some k → w5.heap.size ≤ k) := ⟨hown', up_append HA7.out.2.1 HA7.out.2.2 hchg hat⟩; clear hown' hchg hat))
              -- c, g := Put(s+t, all...)
              have hput := put_any' (s ++ t) (rs ++ ms) A8 n8 c8 w8 (by rw [data_append, List.length_append]; have := HS.out; omega) ⟨HA8.out.1.sl Wr.cells_len, hn8, fun r hr => by
                rcases List.mem_append.1 hr with h | h
                · exact (HR.out w8 (ext_under HB5.out.1 (Nat.le_refl _) HA8.out.2.1)).1.rd r h
                · exact (HR.out w8 (ext_under HB5.out.1 (Nat.le_refl _) HA8.out.2.1)).2.rd r h, by rw [List.length_append]; have := HG.out; omega⟩
              rw [HPA.out] at hput
              refine hput.mono ?_; rintro e w9 ⟨hb9, A9, n9, c9, rfl, ho9, hf9⟩
              obtain ⟨A90, n90, c90, hv90, hn9, hle9, hmx9, hnil9⟩ := ho9.form
              cases hv90
              have HB9 := Lib.hid (And.intro (ext_under HA8.out.2.1 (Nat.le_refl _) hb9) ho9)
              clear hb9 ho9 hf9 hput
              simp only
              go_wp2_with fail
              refine (copy_any p A1 n1 c1 w9 ((HB5.out.2.1.ext HB9.out.1).sl encB_len) (by have := HPQ.out.2; omega) hn1).mono ?_; rintro e w10 ⟨v10, rfl, ho10, hb10⟩
              obtain ⟨A10, n10, c10, rfl, hn10, hle10, hmx10⟩ := ho10.form
              have HB10 : Hid (OwnA w10 5 1 encB (.slice A10 n10 c10) p ∧ Below w9.heap.size w9 w10 ∧ ∀ k, (Value.slice A10 n10 c10).ownBlock = some k → w9.heap.size ≤ k) := ⟨OwnA.of_own ho10, hb10, fun k hk => (ho10.lt hk).1⟩
              clear ho10 hb10
              have a5 : Hid (p.length + q.length ≤ maxLen) := by have := HPQ.out.2; have := HQQ.out.2; rw [Hid]; unfold maxLen; omega
              have a6 : Hid ((p.length + q.length) * 1 ≤ 140737488355328) := by have := HPQ.out.2; have := HQQ.out.2; rw [Hid]; omega
              simp only
              go_wp2_with (at_builtin; refine wpList_append_a _ rfl _ _ _ rfl 5 i0 _ 1 1 Try.underlying22 hi hz0 hz1 hz2 rfl (by decide) encB_len encB_one _ p (by rfl) HB10.out.1 _ A2 q n2 c2 (by rfl) hn2.out ((HB5.out.2.2.ext (ext_under HB9.out.1 (Nat.le_refl _) HB10.out.2.1)).sl encB_len) a5.out a6.out ?_; intro v' w11 hown' hchg hat; obtain ⟨A11, n11, c11, rfl, hn11, hle11, hmx11, hnil11⟩ := hown'.form; have HA11 : Hid (OwnA w11 5 1 encB (.slice A11 n11 c11) (p ++ q) ∧ Below w9.heap.size w9 w11) := ⟨hown', (up_append HB10.out.2.1 HB10.out.2.2 hchg hat).1⟩; clear hown' hchg hat)
              -- x, used, h := Take(s, c)
              have hpq : (p ++ q).length ≤ 40000000 := by rw [List.length_append]; have := HPQ.out.2; have := HQQ.out.2; omega
              have hn9' := hn9.out
              have htk := take_any s (p ++ q) A9 n9 c9 w11 (by have := HS.out.1; omega) ((HB9.out.2.ext HA11.out.2).sl encB_len) hn9 hle9 (by omega)
              rw [HTK.out, ← hn1.out] at htk
              refine htk.mono ?_; rintro e w12 ⟨hb12, A12, n12, c12, rs12, rfl, hr12, hv12⟩
              have HB12 := Lib.hid (And.intro (ext_under HA11.out.2 (Nat.le_refl _) hb12) (And.intro hr12 (And.intro hv12 hb12)))
              have hu : n1 ≤ n9 := by have := hn1.out; rw [hn9', List.length_append]; omega
              have HPB := Lib.hid (And.intro hpq hn9')
              clear hb12 hr12 hv12 htk hpq hn9'
              have x1 : ¬ (n9 : Int) < (n1 : Int) := by omega
              have x2 : decide (n9 < n1) = false := decide_eq_false (by omega)
              have x3 : ¬ (n1 : Int) < 0 := by omega
              have x4 : decide ((n1 : Int) < 0) = false := decide_eq_false x3
              have hcut := HB9.out.2.cut encB_len n1 (by have := hn1.out; rw [List.length_append]; omega)
              have hsl : ∀ W, (Instr.slice 22 (.slice A9 n9 c9) (some (.int .i64 (n1 : Int))) none none).run Try.prog W = .ok (.slice (cutA A9 c9 n1 1) (n9 - n1) (c9 - n1)) W := fun W => by
                have := run_slice_lo (c := 1) Try.underlying22 (Option.isSome_iff_exists.1 (by kernel_rfl)) (by kernel_rfl) A9 n9 c9 (n1 : Int) (by omega) (by omega) W
                simpa using this
              have hdr : (p ++ q).drop n1 = q := by rw [hn1.out]; simp
              rw [hdr] at hcut
              have hq13 : Hid (n9 - n1 = q.length) := hcut.len
              have hqc : n9 - n1 ≤ c9 - n1 := by omega
              have HC := Lib.hid hcut
              clear hcut hdr
              generalize cutA A9 c9 n1 1 = A13 at *
              generalize n9 - n1 = n13 at *
              generalize c9 - n1 = c13 at *
              simp only
              go_wp2_with fail
              have hwh := whole_any t q A13 n13 c13 w12 (by have := HS.out.2; omega) ((HC.out.ext HB12.out.1).sl encB_len) hq13 hqc (by have := hq13.out; have := HQQ.out.2; omega)
              rw [HWH.out] at hwh
              refine hwh.mono ?_; rintro e w14 ⟨hb14, A14, n14, c14, rs14, rfl, hr14, hv14⟩
              have HB14 := Lib.hid (And.intro hb14 (And.intro hr14 hv14))
              clear hb14 hr14 hv14 hwh
              have HW9 : Hid (Below w9.heap.size w9 w14) := ext_under HB12.out.1 (Nat.le_refl _) HB14.out.1
              simp only
              go_wp2_with fail
              have hle9 : n9 ≤ maxLen ∧ n11 ≤ maxLen := by have := HPB.out; have := hn11.out; unfold maxLen; omega
              have hsm := same_at (p ++ q) (p ++ q) A9 A11 n9 n11 c9 c11 w14 ((HB9.out.2.ext HW9.out).sl encB_len) ((HA11.out.1.ext (ext_under HB12.out.2.2.2 (Nat.le_refl _) HB14.out.1)).sl encB_len) hn9 hn11 hle9.1 hle9.2
              rw [eqB_self] at hsm
              refine hsm.mono ?_; rintro e w15 ⟨rfl, k15, rfl⟩
              clear hsm hle9
              have HW15 : Hid (Below w.heap.size w (w14.drewN k15) ∧ VRd (w14.drewN k15) A12 n12 rs12 ∧ VRd (w14.drewN k15) A14 n14 rs14) := ⟨bdrewN (ext_under (ext_under HB5.out.1 (Nat.le_refl _) HB9.out.1) (Nat.le_refl _) HW9.out) k15,
                (HB12.out.2.2.1.rd (by have h := congrArg List.length HB12.out.2.1; simp only [List.length_map] at h; have := HG.out.1.2; omega)).ext (bdrewN HB14.out.1 k15),
                (HB14.out.2.2.rd (by have h := congrArg List.length HB14.out.2.1; simp only [List.length_map] at h; have := HG.out.2.2; omega)).ext (bdrewN (Below.refl _ _) k15)⟩
              generalize w14.drewN k15 = w15 at *
              simp only
              go_wp2_with fail
              have hsv := Same_any rs12 rs A12 A n12 n c12 cap w15 HW15.out.2.1 (HR.out w15 HW15.out.1).1
              rw [HB12.out.2.1, eqVs_self] at hsv
              refine hsv.mono ?_; rintro e w16 ⟨rfl, hb16⟩
              have HW16 : Hid (Below w.heap.size w w16 ∧ VRd w16 A14 n14 rs14) := ⟨ext_under HW15.out.1 (Nat.le_refl _) hb16, HW15.out.2.2.ext hb16⟩
              clear hsv hb16
              simp only
              go_wp2_with fail
              have hsv := Same_any rs14 ms A14 B n14 m c14 cb w16 HW16.out.2 (HR.out w16 HW16.out.1).2
              rw [HB14.out.2.1, eqVs_self] at hsv
              refine hsv.mono ?_; rintro e w17 ⟨rfl, hb17⟩
              have HW17 := Lib.hid (ext_under HW16.out.1 (Nat.le_refl _) hb17)
              clear hsv hb17
              go_wp2
              go_ret
              exact ⟨rfl, HW17.out⟩

set_option maxRecDepth 100000 in
theorem lifted (os : Os) (started : os.Started) (H : Type) (enc : TypeId × Value → H) :
    ReturnsInHanded {} Try.checked os 9 .any (Rows.wireRowsSpec.pre6 enc Try.prog Try.f9 Rows.wireRowsRow.domain false) (Rows.wireRowsSpec.post enc Try.prog Try.f9 false true false false) := by
  refine returnsInHanded_of_change_sized (C := Try.checked) own started (by kernel_rfl) Try.func9
    (ChangeSpec.witness6 (enc := enc) (C := Try.checked) false ⟨#[], #[.string ByteArray.empty, .string ByteArray.empty, .slice none 0 0, .slice none 0 0], []⟩ 8 (by kernel_rfl) (by kernel_rfl) (by kernel_rfl) (by kernel_rfl)) ?_
  intro W base args ds gs before hval0 hW hcnd hsz0 _
  have hval : ∀ (j : Nat) t v, Try.f9.params[j]? = some t → args[j]? = some v → Value.okWide Try.prog W .any base t v := hval0
  have hW' := hW
  obtain ⟨p, q, hA0, hV, rfl, hfz, hnd⟩ := hW
  have hA : DataW.TrodAll enc Try.prog W 0 (fun _ => true) true Try.f9.params.toList args.toList ds p := hA0
  have hsz : (DataW.weightsEach Try.prog (Try.f9.params.toList ++ []) (ds ++ gs)).all (· ≤ reachBytes) = true := hsz0
  rw [Try.params9] at hA hval hsz
  have hAll := hA
  obtain ⟨v0, vs0, d0, ds0, p0, q0, hargs, rfl, rfl, h0, r0⟩ := trodAll_cons hA
  obtain ⟨v1, vs1, d1, ds1, p1, q1, rfl, rfl, rfl, h1, r1⟩ := trodAll_cons r0
  obtain ⟨v2, vs2, d2, ds2, p2, q2, rfl, rfl, rfl, h2, r2⟩ := trodAll_cons r1
  obtain ⟨v3, vs3, d3, ds3, p3, q3, rfl, rfl, rfl, h3, r3⟩ := trodAll_cons r2
  obtain ⟨rfl, rfl, rfl⟩ := trodAll_nil r3
  obtain rfl : args = #[v0, v1, v2, v3] := by cases args; simp_all
  obtain ⟨rfl, rfl⟩ := trodVars_none hV
  obtain ⟨s, rfl, _, _, _⟩ := ChangeMaps.open_string Try.underlying9 (hval 0 9 v0 rfl rfl) h0
  obtain ⟨t, rfl, _, _, _⟩ := ChangeMaps.open_string Try.underlying9 (hval 1 9 v1 rfl rfl) h1
  obtain ⟨l_A, l, l_cap, rfl, l_sl, l_ok, l_le, l_max, l_reach, l_nil⟩ := open_sl Try.underlying24 (c := 5) (by kernel_rfl) (by decide) opens_val (hval 2 24 v2 rfl rfl) h2 (light_of hsz (j := 2) rfl rfl)
  obtain ⟨m_A, m, m_cap, rfl, m_sl, m_ok, m_le, m_max, m_reach, m_nil⟩ := open_sl Try.underlying24 (c := 5) (by kernel_rfl) (by decide) opens_val (hval 3 24 v3 rfl rfl) h3 (light_of hsz (j := 3) rfl rfl)
  refine (walk s t l m l_A l.length l_cap m_A m.length m_cap W l_sl l_ok rfl (Nat.le_trans l_le l_max) m_sl m_ok rfl (Nat.le_trans m_le m_max)).mono fun e W' ⟨he, bel⟩ => ?_
  subst he
  exact ⟨_, rfl, _, _, _, [], _, [], hW', trodAll_mk1 (shut_bool Try.underlying4 _), keep_args laidOut bel (by kernel_rfl) hAll, rfl, bel.frame _, fun h => by cases h⟩

theorem over : Rows.wireRowsRow.holds Try.pinned (OpenSpec.ofChange Rows.wireRowsSpec) :=
  OpenClaim.holds_of_wide 9 Try.f9 rfl rfl rfl rfl rfl rfl rfl ⟨rfl, rfl, rfl, rfl, rfl⟩ rfl rfl rfl rfl rfl (by kernel_rfl) Try.func9 (by kernel_rfl)
    (of_decide_eq_true (by kernel_rfl)) (by unfold Func.isWrapper; first | (rw [if_pos (by decide +kernel)]; kernel_rfl) | (rw [if_neg (by decide +kernel)]; exact ⟨rfl, rfl⟩))
    (fun os started H enc _ => lifted os started H enc)

theorem proved : Rows.WireRowsSaid := over
#print axioms proved
end Go.Proofs.Ytiommdidkhohgaa.lawRows
