/- wire: the document's Put. -/
import Derived.Test.YtoneechcclndaaaRPutB
import Derived.Outline
import Derived.BigQuiet
import Derived.Deep.QuietTactic
import Derived.Deep.RegionWith
import Derived.Deep.RegionHeld3
import Derived.Deep.DrawnRows
import Derived.Deep.LoopGhost
import Derived.Deep.DeepCutAuto
import Derived.Laws.EntriesVeiled
namespace Go.Proofs.Ytoneechcclndaaa.Wire
open Go.RowKit Go.ChangeShapes Go.WideShapes Go.ChangeAt
set_option linter.unusedVariables false
set_option linter.unusedSimpArgs false
attribute [local go_sem ↓] Go.wp_at_zero Go.wp_at_succ
open Go.Shelf Go.Proofs.Ytoneechcclndaaa.Word

set_option maxHeartbeats 8000000 in
set_option maxRecDepth 100000 in
theorem rput4_any (s : ByteArray) (rs : List Wr) (A : Option Addr) (n cap : Nat) (w : World) (hs : s.data.toList.length ≤ 1000000) (hl : VRd w A n rs) :
    Calls Try.prog 19 #[.string s, .slice A n cap] w (RetPut w (putP s.data.toList (rs.map Wr.v))) := by
  obtain ⟨i0, hi, hz, hz1, hz2⟩ := info_parts byInfo
  have hsc := fun W => rschema_any s W hs
  have hix : ∀ (j : Nat) (x : UInt8), s.data.toList[j]? = some x → ∀ W, (Instr.index 9 (.string s) (.int .i64 (j : Int))).run Try.prog W = .ok (.int .u8 (x.toNat : Int)) W := fun j x hx W => str_index s j x hx W
  have hszn : Hid (s.size = s.data.toList.length) := rfl
  obtain ⟨m, hm0⟩ : ∃ m, m = s.size := ⟨_, rfl⟩
  rw [← hm0] at hszn
  generalize s.data.toList = sl at *
  have HL := Lib.hid hl
  have hnb : n ≤ 1000000 := by rw [hl.n.out]; exact hl.le
  cases hsp : schemaP sl with
  | none =>
    rw [hsp] at hsc
    have ht : Hid (putP sl (rs.map Wr.v) = ([], 2)) := by unfold Hid putP; rw [hsp]
    clear hl
    go_enter Try.func19, Try.ntmps19
    go_wp2_with (go_at_call 56; refine (hsc _).mono ?_; rintro e w1 ⟨rfl, rfl⟩; simp only [Option.isSome])
    refine bodyPost_ret (v := .tuple #[.slice none 0 0, .int .i64 2]) (by simp [results, Try.results19, go_sem]) rfl ?_
    rw [ht.out]
    exact RetPut.err (Below.refl _ _) 2 rfl
  | some ks =>
    rw [hsp] at hsc
    have ht : Hid (putP sl (rs.map Wr.v) = if fitsS ks (rs.map Wr.v) then (if (rs.map Wr.v).any longV then ([], 3) else (putS ks (rs.map Wr.v), 0)) else ([], 2)) := by unfold Hid putP; rw [hsp]
    have hk64 : Hid (ks.length ≤ 64 ∧ ks.length = sl.length ∧ kdsOf sl = some ks) := by
      unfold schemaP at hsp
      split at hsp
      · rw [Hid, kds_length _ _ hsp]; exact ⟨by assumption, rfl, hsp⟩
      · cases hsp
    have hmk : Hid (m = ks.length) := by rw [Hid, hk64.out.2.1, hszn.out]
    have HIX := Lib.hid hix
    clear hl hsp hix
    by_cases hmn : m = n
    · have hq1 : ((n : Int) != (m : Int)) = false := by rw [hmn]; simp
      have hq2 : (n != m) = false := by rw [hmn]; simp
      have hmn' := Lib.hid hmn
      rw [hm0] at hq1 hq2
      clear hmn
      go_enter Try.func19, Try.ntmps19
      go_wp2_with (go_at_call 56; refine (hsc _).mono ?_; rintro e w1 ⟨rfl, rfl⟩; simp only [Option.isSome])
      go_loopg [6] n (fun gk vj wr => ∃ (j : Nat), vj = .int .i64 (j : Int) ∧ n ≤ j + gk ∧ j ≤ n ∧ Hid (fitsS ks (rs.map Wr.v) = fitsS (ks.drop j) ((rs.drop j).map Wr.v) ∧ Below w.heap.size w wr))
      case atStart => exact ⟨0, rfl, by omega, by omega, rfl, Below.refl _ _⟩
      case round =>
        obtain ⟨j, rfl, hgk, hj, hP⟩ := hrel
        by_cases hjn : j < n
        · have hjk : j < ks.length := by rw [← hmk.out, hmn'.out]; exact hjn
          have hj2 : j < rs.length := by rw [← HL.out.n.out]; exact hjn
          have hjs : j < sl.length := by rw [← hszn.out, hmn'.out]; exact hjn
          have hkx : (sl[j]'hjs).toNat = (ks[j]'hjk).byte := kds_at sl ks hk64.out.2.2 j hjk
          have hidx := HIX.out j _ (List.getElem?_eq_getElem hjs)
          rw [hkx] at hidx
          have HR := Lib.hid (HL.out.ext hP.out.2)
          have hrx := List.getElem?_eq_getElem hj2
          obtain ⟨vb, vo, rfl, hvb, y0, y1, y2, y3, y4⟩ := Wr.at_ HR.out.sl hrx
          have hrd := Lib.hid (HR.out.rd _ (List.getElem_mem hj2))
          have HF := Lib.hid (fits_drop (List.drop_eq_getElem_cons hjk) (List.drop_eq_getElem_cons hj2))
          generalize ks[j] = k at *
          generalize rs[j] = r at *
          have b0 : (0 : Int) ≤ (j : Int) := Int.natCast_nonneg _
          have b2 : (j : Int) < (n : Int) := by omega
          have b3 : decide (j < n) = true := decide_eq_true hjn
          have hfit := Lib.hid (fun W => rfits_any r k W hrd.out.bn hrd.out.ln)
          unfold Wr.agg at hfit
          cases hfk : fitsK k r.v with
          | false =>
            rw [hfk] at hfit
            have ht2 : Hid (putP sl (rs.map Wr.v) = ([], 2)) := by rw [Hid, ht.out, if_neg (by rw [hP.out.1, HF.out, hfk]; simp)]
            clear hkx hrx hfk
            generalize k.byte = by' at *
            go_upto_region 6 with fail
            go_cut [34] (fun s34 wx => s34 = .bool true ∧ Hid (Below wr.heap.size wr wx))
            case first =>
              go_region_with (go_at_call 57; refine (hfit.out _).mono ?_; rintro e w3 ⟨rfl, hb3⟩; have hb4 := Lib.hid (b4_d hb3); clear hb3)
              all_goals (go_wp2_with fail; go_meet; exact ⟨rfl, hb4⟩)
            case rest =>
              obtain ⟨rfl, hwx⟩ := hcut
              go_wp2
              refine bodyPost_ret (v := .tuple #[.slice none 0 0, .int .i64 2]) (by simp [results, Try.results19, go_sem]) rfl ?_
              rw [ht2.out]
              exact RetPut.err (ext_under hP.out.2 (Nat.le_refl _) hwx.out) 2 rfl
          | true =>
            rw [hfk] at hfit
            have hN : Hid (fitsS ks (rs.map Wr.v) = fitsS (ks.drop (j + 1)) ((rs.drop (j + 1)).map Wr.v)) := by rw [Hid, hP.out.1, HF.out, hfk]; rfl
            clear hkx hrx hfk
            generalize k.byte = by' at *
            go_upto_region 6 with fail
            go_cut [34] (fun s34 wx => s34 = .bool false ∧ Hid (Below wr.heap.size wr wx))
            case first =>
              go_region_with (go_at_call 57; refine (hfit.out _).mono ?_; rintro e w3 ⟨rfl, hb3⟩; have hb4 := Lib.hid (b4_d hb3); clear hb3)
              all_goals (go_wp2_with fail; go_meet; exact ⟨rfl, hb4⟩)
            case rest =>
              obtain ⟨rfl, hwx⟩ := hcut
              go_wp2
              go_roundg (gk - 1)
              case measure => omega
              case rel => exact ⟨j + 1, by go_num, by omega, by omega, hN.out, ext_under hP.out.2 (Nat.le_refl _) hwx.out⟩
        · have hfit : Hid (fitsS ks (rs.map Wr.v) = true) := by
            rw [Hid, hP.out.1, List.drop_of_length_le (by rw [← hmk.out, hmn'.out]; omega), List.drop_of_length_le (by rw [← HL.out.n.out]; omega)]; rfl
          have b2 : ¬ (j : Int) < (n : Int) := by omega
          have b3 : decide (j < n) = false := decide_eq_false hjn
          have HB1 : Hid (Below w.heap.size w wr) := hP.out.2
          go_wp2
          generalize wr = W1 at *
          generalize gk = g0 at *
          clear hP
          go_loopg [7] n (fun gk vj wx => ∃ (q : Nat), vj = .int .i64 (q : Int) ∧ n ≤ q + gk ∧ q ≤ n ∧ Hid (((rs.take q).map Wr.v).any longV = false) ∧ wx = W1)
          case atStart => exact ⟨0, rfl, by omega, by omega, rfl, rfl⟩
          case round =>
            obtain ⟨q, rfl, hgk2, hq, hP2, rfl⟩ := hrel
            by_cases hqn : q < n
            · have hj2 : q < rs.length := by rw [← HL.out.n.out]; exact hqn
              have HR := Lib.hid (HL.out.ext HB1.out)
              have hrx := List.getElem?_eq_getElem hj2
              obtain ⟨vb, vo, hvA, hvb, y0, y1, y2, y3, y4⟩ := Wr.at_ HR.out.sl hrx
              subst hvA
              have hrd := Lib.hid (HR.out.rd _ (List.getElem_mem hj2))
              have HA := Lib.hid (any_take hrx)
              have hmem := Lib.hid (List.getElem_mem hj2)
              generalize rs[q] = r at *
              have b0 : (0 : Int) ≤ (q : Int) := Int.natCast_nonneg _
              have b2 : (q : Int) < (n : Int) := by omega
              have b3 : decide (q < n) = true := decide_eq_true hqn
              obtain ⟨q1, hq1'⟩ : ∃ q, q = decide (262144 < r.bn) := ⟨_, rfl⟩
              obtain ⟨q2, hq2'⟩ : ∃ q, q = decide (4096 < r.ln) := ⟨_, rfl⟩
              have hlv : Hid (longV r.v = (q1 || q2)) := by rw [Hid, hq1', hq2', hrd.out.bn, hrd.out.ln]; rfl
              have d1 : decide ((262144 : Int) < (r.bn : Int)) = q1 := by rw [hq1', Bool.eq_iff_iff]; simp; omega
              have d2 : decide ((4096 : Int) < (r.ln : Int)) = q2 := by rw [hq2', Bool.eq_iff_iff]; simp; omega
              clear hrx hq1' hq2'
              cases hlo : (q1 || q2) with
              | true =>
                have ht2 : Hid (putP sl (rs.map Wr.v) = ([], 3)) := by
                  rw [Hid, ht.out, if_pos hfit.out, if_pos]
                  exact List.any_eq_true.2 ⟨r.v, List.mem_map.2 ⟨r, hmem.out, rfl⟩, by rw [hlv.out, hlo]⟩
                cases q1 <;> cases q2 <;> (first | (exact absurd hlo (by decide)) | (
                  go_wp2
                  refine bodyPost_ret (v := .tuple #[.slice none 0 0, .int .i64 3]) (by simp [results, Try.results19, go_sem]) rfl ?_
                  rw [ht2.out]
                  exact RetPut.err HB1.out 3 rfl))
              | false =>
                have hN : Hid (((rs.take (q + 1)).map Wr.v).any longV = false) := by rw [Hid, HA.out, hP2.out, hlv.out, hlo]; rfl
                simp only [Bool.or_eq_false_iff] at hlo
                obtain ⟨rfl, rfl⟩ := hlo
                go_wp2
                go_roundg (gk - 1)
                case measure => omega
                case rel => exact ⟨q + 1, by go_num, by omega, by omega, hN, rfl⟩
            · have hlong : Hid ((rs.map Wr.v).any longV = false) := by
                have h := hP2.out
                rw [List.take_of_length_le (by rw [← HL.out.n.out]; omega)] at h
                exact h
              have ht2 : Hid (putP sl (rs.map Wr.v) = (putS ks (rs.map Wr.v), 0)) := by rw [Hid, ht.out, if_pos hfit.out, if_neg (by rw [hlong.out]; simp)]
              have b2 : ¬ (q : Int) < (n : Int) := by omega
              have b3 : decide (q < n) = false := decide_eq_false hqn
              go_wp2
              generalize wr = W2 at *
              generalize gk = g1 at *
              go_loopg [8, 9] n (fun g vo vj wx => ∃ (j : Nat) (A2 : Option Addr) (n2 c2 : Nat) (acc : List UInt8), vj = .int .i64 (j : Int) ∧ vo = .slice A2 n2 c2 ∧ n ≤ j + g ∧ j ≤ n ∧ Hid (P2 W2 wx ks rs j A2 n2 c2 acc))
              case atStart => exact ⟨0, none, 0, 0, [], rfl, rfl, by omega, by omega, ⟨rfl, OwnA.nil_ _ _ _ _, (fun k hk => by cases hk), Below.refl _ _, Nat.zero_le _⟩⟩
              case round =>
                obtain ⟨q, A2, n2, c2, acc, rfl, rfl, hg2, hq, hP2⟩ := hrel
                by_cases hqn : q < n
                · have hj1 : q < ks.length := by rw [← hmk.out, hmn'.out]; exact hqn
                  have hj2 : q < rs.length := by rw [← HL.out.n.out]; exact hqn
                  have hjs : q < sl.length := by rw [← hszn.out, hmn'.out]; exact hqn
                  have hkx : (sl[q]'hjs).toNat = (ks[q]'hj1).byte := kds_at sl ks hk64.out.2.2 q hj1
                  have hidx := HIX.out q _ (List.getElem?_eq_getElem hjs)
                  rw [hkx] at hidx
                  have hbx : Hid (Below w.heap.size w wr) := ext_under HB1.out (Nat.le_refl _) hP2.out.be
                  have HR := Lib.hid (HL.out.ext hbx.out)
                  have hrx := List.getElem?_eq_getElem hj2
                  obtain ⟨vb, vo, hvA, hvb, y0, y1, y2, y3, y4⟩ := Wr.at_ HR.out.sl hrx
                  subst hvA
                  have hrd := Lib.hid (HR.out.rd _ (List.getElem_mem hj2))
                  have HF := Lib.hid (put_drop (List.drop_eq_getElem_cons hj1) (List.drop_eq_getElem_cons hj2))
                  have hnl : longV rs[q].v = false := by
                    have h := hlong.out
                    cases hv : longV rs[q].v with
                    | false => rfl
                    | true => exact absurd (List.any_eq_true.2 ⟨rs[q].v, List.mem_map.2 ⟨rs[q], List.getElem_mem hj2, rfl⟩, hv⟩) (by rw [h]; simp)
                  generalize ks[q] = k at *
                  generalize rs[q] = r at *
                  have hplen := putK_len k r.v hrd.out.wf hnl
                  have h1 : Hid (acc.length + (putK k r.v).length ≤ maxLen) := by have := hP2.out.len; rw [Hid]; unfold maxLen; omega
                  have h2 : Hid ((acc.length + (putK k r.v).length) * 1 ≤ 140737488355328) := by have := hP2.out.len; rw [Hid]; omega
                  have b0 : (0 : Int) ≤ (q : Int) := Int.natCast_nonneg _
                  have b2 : (q : Int) < (n : Int) := by omega
                  have b3 : decide (q < n) = true := decide_eq_true hqn
                  have hpk : ∀ W2, Hid (Below wr.heap.size wr W2) → Calls Try.prog 58 #[.int .u8 (k.byte : Int), r.agg] W2 (RetA W2 5 1 encB (putK k r.v)) := fun W2 h => rone_any k r W2 (hrd.out.ext h.out)
                  unfold Wr.agg at hpk
                  have HPK := Lib.hid hpk
                  have HPL := Lib.hid hplen
                  clear hkx hrx hpk hplen hnl
                  generalize k.byte = by' at *
                  go_upto_region 17 with fail
                  go_region_law (first | (go_simp; refine (HPK.out _ ?_).mono ?_; (with_reducible exact hb_d wr); rintro e w1 ⟨v1, rfl, hown1, hfr1, hb1⟩; obtain ⟨A1, n1, c1', rfl, hn1, hle1, hmx1, hnil1⟩ := hown1.form; have HP := Lib.hid (And.intro hown1 (b4_d hb1)); clear hown1 hfr1 hb1; dsimp only) | (refine step_append_a _ rfl _ _ _ rfl 5 i0 _ 1 1 Try.underlying25 hi hz hz1 hz2 rfl (by decide) encB_len encB_one _ acc (by rfl) (hP2.out.own.ext HP.out.2) _ A1 (putK k r.v) n1 c1' (by rfl) hn1.out (HP.out.1.sl encB_len) h1.out h2.out ?_; intro v' w' hown' hchg hat; obtain ⟨A3, n3, c3, rfl, hn3, hle3, hmx3, hnil3⟩ := hown'.form; have HA := Lib.hid (And.intro hown' (And.intro hchg hat)); clear hown' hchg hat))
                  all_goals (
                    go_wp2
                    go_roundg (gk - 1)
                    case measure => omega
                    case rel => exact ⟨q + 1, A3, n3, c3, acc ++ putK k r.v, by go_num, rfl, by omega, by omega, hP2.out.next HP.out.2 HF.out HPL.out HA.out.1 HA.out.2.1 HA.out.2.2⟩)
                · have hout : Hid (acc = putS ks (rs.map Wr.v)) := by
                    rw [Hid, hP2.out.eq, List.drop_of_length_le (show ks.length ≤ q by rw [← hmk.out, hmn'.out]; omega), List.drop_of_length_le (show rs.length ≤ q by rw [← HL.out.n.out]; omega)]; simp [putS]
                  have b2 : ¬ (q : Int) < (n : Int) := by omega
                  have b3 : decide (q < n) = false := decide_eq_false hqn
                  go_wp2
                  refine bodyPost_ret (v := .tuple #[.slice A2 n2 c2, .int .i64 0]) (by simp [results, Try.results19, go_sem]) rfl ?_
                  rw [ht2.out, ← hout.out]
                  exact ⟨ext_under HB1.out (Nat.le_refl _) hP2.out.be, A2, n2, c2, rfl, hP2.out.own, fun k hk => Nat.le_trans HB1.out.size (hP2.out.fr k hk)⟩
    · have ht2 : Hid (putP sl (rs.map Wr.v) = ([], 2)) := by
        rw [Hid, ht.out, if_neg]
        intro hf
        have := fits_len _ _ hf
        rw [List.length_map, ← HL.out.n.out] at this
        exact hmn (by rw [hmk.out, this])
      have hq1 : ((n : Int) != (m : Int)) = true := by simp; omega
      have hq2 : (n != m) = true := by simp; omega
      rw [hm0] at hq1 hq2
      clear hmn
      go_enter Try.func19, Try.ntmps19
      go_wp2_with (go_at_call 56; refine (hsc _).mono ?_; rintro e w1 ⟨rfl, rfl⟩; simp only [Option.isSome])
      refine bodyPost_ret (v := .tuple #[.slice none 0 0, .int .i64 2]) (by simp [results, Try.results19, go_sem]) rfl ?_
      rw [ht2.out]
      exact RetPut.err (Below.refl _ _) 2 rfl
end Go.Proofs.Ytoneechcclndaaa.Wire
