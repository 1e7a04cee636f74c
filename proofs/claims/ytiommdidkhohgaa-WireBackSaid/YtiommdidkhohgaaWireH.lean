/- wire: the program's Take. -/
import Derived.Test.YtiommdidkhohgaaWireG
import Derived.Outline
import Derived.BigQuiet
import Derived.Deep.QuietTactic
import Derived.Deep.RegionWith
import Derived.Deep.RegionHeld3
import Derived.Deep.DrawnRows
import Derived.Deep.LoopGhost
import Derived.Deep.DeepCutAuto
import Derived.Laws.EntriesVeiled
namespace Go.Proofs.Ytiommdidkhohgaa.Wire
open Go.RowKit Go.ChangeShapes Go.WideShapes Go.ChangeAt
set_option linter.unusedVariables false
set_option linter.unusedSimpArgs false
attribute [local go_sem ↓] Go.wp_at_zero Go.wp_at_succ
open Go.Shelf Go.Proofs.Ytiommdidkhohgaa.Word

set_option maxHeartbeats 4000000 in
set_option maxRecDepth 100000 in
theorem take_any (s : ByteArray) (l : List UInt8) (A : Option Addr) (n cap : Nat) (w : World) (hs : s.data.toList.length ≤ 1000000) (hl : BySl w w.heap.size A l) (hn : Hid (n = l.length)) (hc : n ≤ cap) (hm : n ≤ 1000000000000) :
    Calls Try.prog 16 #[.string s, .slice A n cap] w (RetTake w (takeP s.data.toList l)) := by
  obtain ⟨i0, hi, hz, hz1, hz2⟩ := info_parts vInfo
  have hsc := fun W => schema_any s W hs
  generalize s.data.toList = sl at *
  have HL := Lib.hid hl
  cases hsp : schemaP sl with
  | none =>
    rw [hsp] at hsc
    have ht : Hid (takeP sl l = ([], 0, 2)) := by unfold Hid takeP; rw [hsp]
    clear hl
    go_enter Try.func16, Try.ntmps16
    go_wp2_with (go_at_call 40; refine (hsc _).mono ?_; rintro e w1 ⟨hb, rfl⟩)
    refine bodyPost_ret (v := .tuple #[.slice none 0 0, .int .i64 0, .int .i64 2]) (by simp [results, Try.results16, go_sem]) rfl ?_
    rw [ht.out]
    exact ⟨hb, none, 0, 0, [], rfl, rfl, VOwn.nil _ _⟩
  | some ks =>
    rw [hsp] at hsc
    have ht : Hid (takeP sl l = outT (takeS ks l)) := by unfold Hid takeP; rw [hsp]
    have hk64 : Hid (ks.length ≤ 64) := by
      unfold schemaP at hsp
      split at hsp
      · rw [Hid, kds_length _ _ hsp]; assumption
      · cases hsp
    clear hl hsp
    go_enter Try.func16, Try.ntmps16
    go_wp2_with (go_at_call 40; refine (hsc _).mono ?_; rintro e W ⟨hb, kv, rfl, hko, hkf⟩; obtain ⟨kA, kn, kc, rfl, hkn, hkle, hkmx, hknil⟩ := hko.form; have HK : Hid (OwnA W 76 3 Kd.cells (.slice kA kn kc) ks ∧ Below w.heap.size w W) := ⟨hko, hb⟩; clear hko hb hkf)
    have hkn64 : kn ≤ 64 := by rw [hkn.out]; exact hk64.out
    go_loopg [9, 10, 25] kn (fun gk vo vd vj wr => ∃ (j d : Nat) (rs : List Wr) (A2 : Option Addr) (n2 c2 : Nat), vj = .int .i64 (j : Int) ∧ vd = .int .i64 (d : Int) ∧ vo = .slice A2 n2 c2 ∧ kn ≤ j + gk ∧ j ≤ kn ∧ Hid (TI l ks w.heap.size W wr j d rs A2 n2 c2))
    case atStart =>
      refine ⟨0, 0, [], none, 0, 0, rfl, rfl, rfl, by omega, by omega, ⟨?_, VOwn.nil _ _, (fun k hk => by cases hk), Below.refl _ _, Nat.zero_le _, rfl⟩⟩
      rw [List.drop_zero, List.drop_zero]
      cases takeS ks l with
      | none => rfl
      | some y => obtain ⟨ys, t⟩ := y; simp
    case round =>
      obtain ⟨j, d, rs, A2, n2, c2, rfl, rfl, rfl, hgk, hj, hTI⟩ := hrel
      by_cases hjn : j < kn
      · have hx : ks[j]? = some ks[j] := List.getElem?_eq_getElem (by rw [← hkn.out]; exact hjn)
        have HD := Lib.hid (List.drop_eq_getElem_cons (show j < ks.length by rw [← hkn.out]; exact hjn))
        obtain ⟨bb, off, rfl, hbb, c0, c1, c2'⟩ := Kd.at_ (Sl.ext (HK.out.1.sl Kd.cells_len) hTI.out.be) hx
        generalize ks[j] = k at *
        have b0 : (0 : Int) ≤ (j : Int) := Int.natCast_nonneg _
        have b1 : (j : Int) < (kn : Int) := by omega
        have hdl := hTI.out.le
        have hlo : ∀ W, (Instr.slice 22 (.slice A n cap) (some (.int .i64 (d : Int))) none none).run Try.prog W = .ok (.slice (cutA A cap d 1) (n - d) (cap - d)) W := fun W => by
          have := run_slice_lo (c := 1) Try.underlying22 (Option.isSome_iff_exists.1 (by kernel_rfl)) (by kernel_rfl) A n cap (d : Int) (by omega) (by rw [hn.out]; omega) W
          simpa using this
        have hbw : Hid (Below w.heap.size w wr) := HK.out.2.trans (hTI.out.be.mono HK.out.2.size)
        have htk : ∀ W2, Hid (Below wr.heap.size wr W2) → Calls Try.prog k.take #[.slice (cutA A cap d 1) (n - d) (cap - d)] W2 (RetTk W2 (takeK k (l.drop d))) := fun W2 h2 => by
          refine tk_any k (l.drop d) _ _ _ W2 ((((Sl.cut HL.out cap d (by rw [← hn.out]; exact hc)).below hbw.out).more hbw.out.size).ext h2.out) (by unfold Hid; rw [List.length_drop, ← hn.out]) (by omega) (by omega)
        generalize cutA A cap d 1 = Ac at *
        have hen := tk_enters k
        unfold fnV at c1 c2'
        clear hx
        cases hk : takeK k (l.drop d) with
        | none =>
          rw [hk] at htk
          have ht2 : Hid (takeP sl l = ([], 0, 40)) := by
            rw [Hid, ht.out, hTI.out.eq, HD.out, takeS, hk]; rfl
          clear hk
          generalize k.take = ft at *
          generalize k.put = fp at *
          generalize k.byte = by' at *
          go_upto_region 9 with fail
          go_cut [13, 14, 15] (fun s13 s14 s15 wx => s15 = .bool false ∧ Hid (Below wr.heap.size wr wx))
          case first =>
            go_region_with (refine (htk _ ?_).mono ?_; (first | (with_reducible exact hb_ad wr _) | (with_reducible exact hb_aad wr _ _)); rintro e w3 ⟨hb3, rfl⟩; have hb4 : Below wr.heap.size wr w3 := (by first | (with_reducible exact b4_ad hb3) | (with_reducible exact b4_aad hb3)); simp only [wr0_agg]; first | (have hB9 : Blk w3 (wr.heap.size + 1) 34 #[.int .u64 0, .int .i64 0, .bool false, .slice none 0 0, .slice none 0 0] := (by with_reducible exact blk_2 hb3); have y0 : w3.cell? ⟨wr.heap.size + 1, 0, none⟩ = some (.int .u64 0) := hB9.cell 0; have y1 : w3.cell? ⟨wr.heap.size + 1, 1, none⟩ = some (.int .i64 0) := hB9.cell 1; have y2 : w3.cell? ⟨wr.heap.size + 1, 2, none⟩ = some (.bool false) := hB9.cell 2; have y3 : w3.cell? ⟨wr.heap.size + 1, 3, none⟩ = some (.slice none 0 0) := hB9.cell 3; have y4 : w3.cell? ⟨wr.heap.size + 1, 4, none⟩ = some (.slice none 0 0) := hB9.cell 4; have g0 := hB9.free 0; have g1 := hB9.free 1; have g2 := hB9.free 2; have g3 := hB9.free 3; have g4 := hB9.free 4) | skip)
            all_goals (go_wp2_with fail; go_meet; first | (have h9 := hB9; exact ⟨rfl, Lib.hid (below_five hb4 (Nat.le_succ _) _ _ _ _ _)⟩) | exact ⟨rfl, Lib.hid (hb4.alloc hb4.size _)⟩)
          case rest =>
            obtain ⟨rfl, hwx⟩ := hcut
            go_wp2
            refine bodyPost_ret (v := .tuple #[.slice none 0 0, .int .i64 0, .int .i64 40]) (by simp [results, Try.results16, go_sem]) rfl ?_
            rw [ht2.out]
            exact ⟨hbw.out.trans (hwx.out.mono hbw.out.size), none, 0, 0, [], rfl, rfl, VOwn.nil _ _⟩
        | some y =>
          obtain ⟨v, u⟩ := y
          rw [hk] at htk
          have hnx := Lib.hid hk
          have hu := (takeK_le hk).2
          rw [List.length_drop] at hu
          have e2 : IntKind.i64.wrap ((d : Int) + (u : Int)) = ((d + u : Nat) : Int) := by rw [IntWalk.i64_in _ (by have := hn.out; omega)]; omega
          obtain ⟨du, hdu⟩ : ∃ t, t = d + u := ⟨_, rfl⟩
          rw [← hdu] at e2
          have HDU := Lib.hid hdu
          have h1 : Hid (rs.length + [wr0].length ≤ maxLen) := by rw [Hid, hTI.out.len]; simp [maxLen]; omega
          have h2 : Hid ((rs.length + [wr0].length) * 72 ≤ 140737488355328) := by rw [Hid, hTI.out.len]; simp; omega
          clear hk hdu
          generalize k.take = ft at *
          generalize k.put = fp at *
          generalize k.byte = by' at *
          go_upto_region 9 with fail
          go_cut [13, 14, 15] (fun s13 s14 s15 wx => s15 = .bool true ∧ s14 = .int .i64 (u : Int) ∧ ∃ g r, s13 = .pointer (some ⟨g, 0, none⟩) ∧ Hid (r.v = v ∧ VBox wr wx g r))
          case first =>
            go_region_with (refine (htk _ ?_).mono ?_; (first | (with_reducible exact hb_ad wr _) | (with_reducible exact hb_aad wr _ _)); rintro e w3 ⟨hb3, r, hrv, rfl, hrok, hrf⟩; have hb4 : Below wr.heap.size wr w3 := (by first | (with_reducible exact b4_ad hb3) | (with_reducible exact b4_aad hb3)); have HR := Lib.hid (And.intro hrv (And.intro hrok hrf)); clear hrv hrok hrf; simp only [Wr.agg]; first | (have hB9 : Blk w3 (wr.heap.size + 1) 34 #[.int .u64 0, .int .i64 0, .bool false, .slice none 0 0, .slice none 0 0] := (by with_reducible exact blk_2 hb3); have y0 : w3.cell? ⟨wr.heap.size + 1, 0, none⟩ = some (.int .u64 0) := hB9.cell 0; have y1 : w3.cell? ⟨wr.heap.size + 1, 1, none⟩ = some (.int .i64 0) := hB9.cell 1; have y2 : w3.cell? ⟨wr.heap.size + 1, 2, none⟩ = some (.bool false) := hB9.cell 2; have y3 : w3.cell? ⟨wr.heap.size + 1, 3, none⟩ = some (.slice none 0 0) := hB9.cell 3; have y4 : w3.cell? ⟨wr.heap.size + 1, 4, none⟩ = some (.slice none 0 0) := hB9.cell 4; have g0 := hB9.free 0; have g1 := hB9.free 1; have g2 := hB9.free 2; have g3 := hB9.free 3; have g4 := hB9.free 4) | skip)
            all_goals (go_wp2_with fail; go_meet; first | (have h9 := hB9; exact ⟨rfl, rfl, wr.heap.size + 1, r, rfl, HR.out.1, VBox.set h9 HR.out.2.1 HR.out.2.2 ⟨Nat.le_succ _, by simp⟩ hb4⟩) | exact ⟨rfl, rfl, w3.heap.size, r, rfl, HR.out.1, VBox.new HR.out.2.1 HR.out.2.2 (by simp <;> omega) hb4⟩)
          case rest =>
            obtain ⟨rfl, rfl, g, r, rfl, hVB⟩ := hcut
            have y0 : wc.cell? ⟨g, 0, none⟩ = some (.int .u64 (r.v.n : Int)) := hVB.out.2.blk.cell 0
            have y1 : wc.cell? ⟨g, 1, none⟩ = some (.int .i64 r.v.i) := hVB.out.2.blk.cell 1
            have y2 : wc.cell? ⟨g, 2, none⟩ = some (.bool r.v.f) := hVB.out.2.blk.cell 2
            have y3 : wc.cell? ⟨g, 3, none⟩ = some (.slice r.bA r.bn r.bc) := hVB.out.2.blk.cell 3
            have y4 : wc.cell? ⟨g, 4, none⟩ = some (.slice r.lA r.ln r.lc) := hVB.out.2.blk.cell 4
            have HO := Lib.hid (hTI.out.vo.own.ext hVB.out.2.be)
            go_wp2_with (at_builtin; refine wpList_append_a _ rfl _ _ _ rfl 34 i0 _ 5 72 Try.underlying24 hi hz hz1 hz2 rfl (by decide) Wr.cells_len Wr.cells_one _ rs (by rfl) (HO.out.alloc _) _ (some ⟨wc.heap.size, 0, none⟩) [r] 1 1 (by rfl) rfl (lit_one wc r 34 rfl) h1.out h2.out ?_; intro v' w' hown' hchg hat; obtain ⟨A3, n3, c3', rfl, hn3, hle3, hmx3, hnil3⟩ := hown'.form; have HA := Lib.hid (And.intro hown' (And.intro hchg hat)); clear hown' hchg hat)
            go_roundg (gk - 1)
            case measure => omega
            case rel => exact ⟨j + 1, du, rs ++ [r], A3, n3, c3', by go_num, rfl, rfl, by omega, by omega, by rw [HDU.out]; exact hTI.out.next HK.out.2.size hVB.out.2 hVB.out.1 HD.out hnx.out HA.out.1 HA.out.2.1 HA.out.2.2⟩
      · have ht2 : Hid (takeP sl l = (rs.map Wr.v, d, 0)) := by
          rw [Hid, ht.out, hTI.out.eq, List.drop_of_length_le (by rw [← hkn.out]; omega), takeS]
          simp [outT]
        have b1 : ¬ (j : Int) < (kn : Int) := by omega
        go_wp2
        refine bodyPost_ret (v := .tuple #[.slice A2 n2 c2, .int .i64 (d : Int), .int .i64 0]) (by simp [results, Try.results16, go_sem]) rfl ?_
        rw [ht2.out]
        exact ⟨HK.out.2.trans (hTI.out.be.mono HK.out.2.size), A2, n2, c2, rs, rfl, rfl, hTI.out.vo⟩
end Go.Proofs.Ytiommdidkhohgaa.Wire
