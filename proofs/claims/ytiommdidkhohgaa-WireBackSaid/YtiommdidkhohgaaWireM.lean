/- wire: the document's Take. -/
import Derived.Test.YtiommdidkhohgaaWireL
import Derived.Outline
import Derived.BigQuiet
import Derived.Deep.QuietTactic
import Derived.Deep.RegionWith
import Derived.Deep.RegionHeld3
import Derived.Deep.DrawnRows
import Derived.Deep.LoopGhost
import Derived.Deep.DeepCutAuto
import Derived.Laws.EntriesVeiled
namespace Go.Proofs.Ytiommdidkhohgaa.Wire
open Go.RowKit Go.ChangeShapes Go.WideShapes Go.ChangeAt
set_option linter.unusedVariables false
set_option linter.unusedSimpArgs false
attribute [local go_sem ↓] Go.wp_at_zero Go.wp_at_succ
open Go.Shelf Go.Proofs.Ytiommdidkhohgaa.Word

theorem str_index (s : ByteArray) (j : Nat) (x : UInt8) (hx : s.data.toList[j]? = some x) (W : World) : (Instr.index 9 (.string s) (.int .i64 (j : Int))).run Try.prog W = .ok (.int .u8 (x.toNat : Int)) W := by
  have hj : j < s.data.toList.length := (List.getElem?_eq_some_iff.1 hx).1
  have e1 : s.data.toList[j] = x := (List.getElem?_eq_some_iff.1 hx).2
  rw [← e1, run_index_string _ 9 s .i64 (j : Int) Try.underlying9, dif_pos ⟨Int.natCast_nonneg _, by have : s.size = s.data.toList.length := rfl; omega⟩]
  rfl
theorem kds_at : ∀ (s : List UInt8) (ks : List Kd), kdsOf s = some ks → ∀ (j : Nat) (hj : j < ks.length) {hj' : j < s.length}, (s[j]'hj').toNat = (ks[j]'hj).byte
  | [], ks, h, j, hj, hj' => absurd hj' (by simp)
  | x :: s, ks, h, j, hj, hj' => by
    unfold kdsOf at h
    cases hk : kdOf x.toNat with
    | none => rw [hk] at h; cases h
    | some k =>
      rw [hk] at h
      cases hs : kdsOf s with
      | none => rw [hs] at h; cases h
      | some r =>
        rw [hs] at h
        simp only [Option.map_some, Option.some.injEq] at h
        subst h
        rcases j with _ | j
        · exact kdOf_byte hk
        · exact kds_at s r hs j (by simpa using hj)
theorem below_ad (w : World) (o : Obj) : Below w.heap.size w (w.alloc o).drew := ((Below.refl _ _).alloc (Nat.le_refl _) _).drew
theorem below_d (w : World) : Below w.heap.size w w.drew := (Below.refl _ _).drew

set_option maxHeartbeats 4000000 in
set_option maxRecDepth 100000 in
theorem rtake_any (s : ByteArray) (l : List UInt8) (A : Option Addr) (n cap : Nat) (w : World) (hs : s.data.toList.length ≤ 1000000) (hl : BySl w w.heap.size A l) (hn : Hid (n = l.length)) (hc : n ≤ cap) (hm : n ≤ 1000000000000) :
    Calls Try.prog 17 #[.string s, .slice A n cap] w (RetTake w (takeP s.data.toList l)) := by
  obtain ⟨i0, hi, hz, hz1, hz2⟩ := info_parts vInfo
  have hsc := fun W => rschema_any s W hs
  have hix : ∀ (j : Nat) (x : UInt8), s.data.toList[j]? = some x → ∀ W, (Instr.index 9 (.string s) (.int .i64 (j : Int))).run Try.prog W = .ok (.int .u8 (x.toNat : Int)) W := fun j x hx W => str_index s j x hx W
  have hszn : Hid (s.size = s.data.toList.length) := rfl
  obtain ⟨m, hm0⟩ : ∃ m, m = s.size := ⟨_, rfl⟩
  rw [← hm0] at hszn
  generalize s.data.toList = sl at *
  have HL := Lib.hid hl
  cases hsp : schemaP sl with
  | none =>
    rw [hsp] at hsc
    have ht : Hid (takeP sl l = ([], 0, 2)) := by unfold Hid takeP; rw [hsp]
    clear hl
    go_enter Try.func17, Try.ntmps17
    go_wp2_with (go_at_call 41; refine (hsc _).mono ?_; rintro e w1 ⟨rfl, rfl⟩; simp only [Option.isSome])
    refine bodyPost_ret (v := .tuple #[.slice none 0 0, .int .i64 0, .int .i64 2]) (by simp [results, Try.results17, go_sem]) rfl ?_
    rw [ht.out]
    exact ⟨Below.refl _ _, none, 0, 0, [], rfl, rfl, VOwn.nil _ _⟩
  | some ks =>
    rw [hsp] at hsc
    have ht : Hid (takeP sl l = outT (takeS ks l)) := by unfold Hid takeP; rw [hsp]
    have hk64 : Hid (ks.length ≤ 64 ∧ ks.length = sl.length ∧ kdsOf sl = some ks) := by
      unfold schemaP at hsp
      split at hsp
      · rw [Hid, kds_length _ _ hsp]; exact ⟨by assumption, rfl, hsp⟩
      · cases hsp
    have hmk : Hid (m = ks.length) := by rw [Hid, hk64.out.2.1, hszn.out]
    have hm64 : m ≤ 64 := by rw [hmk.out]; exact hk64.out.1
    have HIX := Lib.hid hix
    clear hl hsp hix
    go_enter Try.func17, Try.ntmps17
    go_wp2_with (go_at_call 41; refine (hsc _).mono ?_; rintro e w1 ⟨rfl, rfl⟩; simp only [Option.isSome])
    go_loopg [7, 8, 9] m (fun gk vo vd vj wr => ∃ (j d : Nat) (rs : List Wr) (A2 : Option Addr) (n2 c2 : Nat), vj = .int .i64 (j : Int) ∧ vd = .int .i64 (d : Int) ∧ vo = .slice A2 n2 c2 ∧ m ≤ j + gk ∧ j ≤ m ∧ Hid (TI l ks w.heap.size w wr j d rs A2 n2 c2))
    case atStart =>
      refine ⟨0, 0, [], none, 0, 0, rfl, rfl, rfl, by omega, by omega, ⟨?_, VOwn.nil _ _, (fun k hk => by cases hk), Below.refl _ _, Nat.zero_le _, rfl⟩⟩
      rw [List.drop_zero, List.drop_zero]
      cases takeS ks l with
      | none => rfl
      | some y => obtain ⟨ys, t⟩ := y; simp
    case round =>
      obtain ⟨j, d, rs, A2, n2, c2, rfl, rfl, rfl, hgk, hj, hTI⟩ := hrel
      by_cases hjn : j < m
      · have hjk : j < ks.length := by rw [← hmk.out]; exact hjn
        have HD := Lib.hid (List.drop_eq_getElem_cons hjk)
        have hjs : j < sl.length := by rw [← hszn.out]; exact hjn
        have hkx : (sl[j]'hjs).toNat = (ks[j]'hjk).byte := kds_at sl ks hk64.out.2.2 j hjk
        have hidx := HIX.out j _ (List.getElem?_eq_getElem hjs)
        rw [hkx] at hidx
        generalize ks[j] = k at *
        have b2 : decide (j < m) = true := decide_eq_true hjn
        have b1 : (j : Int) < (m : Int) := by omega
        have hdl := hTI.out.le
        have hlo : ∀ W, (Instr.slice 22 (.slice A n cap) (some (.int .i64 (d : Int))) none none).run Try.prog W = .ok (.slice (cutA A cap d 1) (n - d) (cap - d)) W := fun W => by
          have := run_slice_lo (c := 1) Try.underlying22 (Option.isSome_iff_exists.1 (by kernel_rfl)) (by kernel_rfl) A n cap (d : Int) (by omega) (by rw [hn.out]; omega) W
          simpa using this
        have hbw : Hid (Below w.heap.size w wr) := hTI.out.be
        have htk : ∀ W2, Hid (Below wr.heap.size wr W2) → Calls Try.prog 42 #[.int .u8 (k.byte : Int), .slice (cutA A cap d 1) (n - d) (cap - d)] W2 (RetRk W2 (takeK k (l.drop d))) := fun W2 h2 => by
          refine rtk_any k (l.drop d) _ _ _ W2 ((((Sl.cut HL.out cap d (by rw [← hn.out]; exact hc)).below hbw.out).more hbw.out.size).ext h2.out) (by unfold Hid; rw [List.length_drop, ← hn.out]) (by omega) (by omega)
        generalize cutA A cap d 1 = Ac at *
        clear hkx
        rw [hm0] at b1 b2
        cases hk : takeK k (l.drop d) with
        | none =>
          rw [hk] at htk
          have ht2 : Hid (takeP sl l = ([], 0, 40)) := by
            rw [Hid, ht.out, hTI.out.eq, HD.out, takeS, hk]; rfl
          clear hk
          generalize k.byte = by' at *
          go_upto_region 8 with fail
          go_cut [10, 11] (fun s10 s11 wx => s11 = .int .i64 0 ∧ Hid (Below wr.heap.size wr wx))
          case first =>
            go_region_with (go_at_call 42; refine (htk _ ?_).mono ?_; (first | (with_reducible exact hb_d wr) | (with_reducible exact hb_ad wr _)); rintro e w3 ⟨hb3, rfl⟩; have hb4 : Below wr.heap.size wr w3 := (by first | (with_reducible exact b4_d hb3) | (with_reducible exact b4_ad hb3)); simp only [wr0_agg]; first | (have hB9 : Blk w3 wr.heap.size 34 #[.int .u64 0, .int .i64 0, .bool false, .slice none 0 0, .slice none 0 0] := (by with_reducible exact blk_1 hb3); have y0 : w3.cell? ⟨wr.heap.size, 0, none⟩ = some (.int .u64 0) := hB9.cell 0; have y1 : w3.cell? ⟨wr.heap.size, 1, none⟩ = some (.int .i64 0) := hB9.cell 1; have y2 : w3.cell? ⟨wr.heap.size, 2, none⟩ = some (.bool false) := hB9.cell 2; have y3 : w3.cell? ⟨wr.heap.size, 3, none⟩ = some (.slice none 0 0) := hB9.cell 3; have y4 : w3.cell? ⟨wr.heap.size, 4, none⟩ = some (.slice none 0 0) := hB9.cell 4; have g0 := hB9.free 0; have g1 := hB9.free 1; have g2 := hB9.free 2; have g3 := hB9.free 3; have g4 := hB9.free 4) | skip)
            all_goals (go_wp2_with fail; go_meet; first | (have h9 := hB9; exact ⟨rfl, Lib.hid (below_five hb4 (Nat.le_refl _) _ _ _ _ _)⟩) | exact ⟨rfl, Lib.hid (hb4.alloc hb4.size _)⟩)
          case rest =>
            obtain ⟨rfl, hwx⟩ := hcut
            go_wp2
            refine bodyPost_ret (v := .tuple #[.slice none 0 0, .int .i64 0, .int .i64 40]) (by simp [results, Try.results17, go_sem]) rfl ?_
            rw [ht2.out]
            exact ⟨hbw.out.trans (hwx.out.mono hbw.out.size), none, 0, 0, [], rfl, rfl, VOwn.nil _ _⟩
        | some y =>
          obtain ⟨v, u⟩ := y
          rw [hk] at htk
          have hnx := Lib.hid hk
          have hu := (takeK_le hk).2
          have hu1 : ((u : Int) == 0) = false := by have := (takeK_le hk).1; simp; omega
          rw [List.length_drop] at hu
          have e2 : IntKind.i64.wrap ((d : Int) + (u : Int)) = ((d + u : Nat) : Int) := by rw [IntWalk.i64_in _ (by have := hn.out; omega)]; omega
          obtain ⟨du, hdu⟩ : ∃ t, t = d + u := ⟨_, rfl⟩
          rw [← hdu] at e2
          have HDU := Lib.hid hdu
          have h1 : Hid (rs.length + [wr0].length ≤ maxLen) := by rw [Hid, hTI.out.len]; simp [maxLen]; omega
          have h2 : Hid ((rs.length + [wr0].length) * 72 ≤ 140737488355328) := by rw [Hid, hTI.out.len]; simp; omega
          clear hk hdu
          generalize k.byte = by' at *
          go_upto_region 8 with fail
          go_cut [10, 11] (fun s10 s11 wx => s11 = .int .i64 (u : Int) ∧ ∃ g r, s10 = .pointer (some ⟨g, 0, none⟩) ∧ Hid (r.v = v ∧ VBox wr wx g r))
          case first =>
            go_region_with (go_at_call 42; refine (htk _ ?_).mono ?_; (first | (with_reducible exact hb_d wr) | (with_reducible exact hb_ad wr _)); rintro e w3 ⟨hb3, r, hrv, rfl, hrok, hrf⟩; have hb4 : Below wr.heap.size wr w3 := (by first | (with_reducible exact b4_d hb3) | (with_reducible exact b4_ad hb3)); have HR := Lib.hid (And.intro hrv (And.intro hrok hrf)); clear hrv hrok hrf; simp only [Wr.agg]; first | (have hB9 : Blk w3 wr.heap.size 34 #[.int .u64 0, .int .i64 0, .bool false, .slice none 0 0, .slice none 0 0] := (by with_reducible exact blk_1 hb3); have y0 : w3.cell? ⟨wr.heap.size, 0, none⟩ = some (.int .u64 0) := hB9.cell 0; have y1 : w3.cell? ⟨wr.heap.size, 1, none⟩ = some (.int .i64 0) := hB9.cell 1; have y2 : w3.cell? ⟨wr.heap.size, 2, none⟩ = some (.bool false) := hB9.cell 2; have y3 : w3.cell? ⟨wr.heap.size, 3, none⟩ = some (.slice none 0 0) := hB9.cell 3; have y4 : w3.cell? ⟨wr.heap.size, 4, none⟩ = some (.slice none 0 0) := hB9.cell 4; have g0 := hB9.free 0; have g1 := hB9.free 1; have g2 := hB9.free 2; have g3 := hB9.free 3; have g4 := hB9.free 4) | skip)
            all_goals (go_wp2_with fail; go_meet; first | (have h9 := hB9; exact ⟨rfl, wr.heap.size, r, rfl, HR.out.1, VBox.set h9 HR.out.2.1 HR.out.2.2 ⟨Nat.le_refl _, by simp⟩ hb4⟩) | exact ⟨rfl, w3.heap.size, r, rfl, HR.out.1, VBox.new HR.out.2.1 HR.out.2.2 (by first | exact Nat.le_refl _ | simp) hb4⟩)
          case rest =>
            obtain ⟨rfl, g, r, rfl, hVB⟩ := hcut
            have y0 : wc.cell? ⟨g, 0, none⟩ = some (.int .u64 (r.v.n : Int)) := hVB.out.2.blk.cell 0
            have y1 : wc.cell? ⟨g, 1, none⟩ = some (.int .i64 r.v.i) := hVB.out.2.blk.cell 1
            have y2 : wc.cell? ⟨g, 2, none⟩ = some (.bool r.v.f) := hVB.out.2.blk.cell 2
            have y3 : wc.cell? ⟨g, 3, none⟩ = some (.slice r.bA r.bn r.bc) := hVB.out.2.blk.cell 3
            have y4 : wc.cell? ⟨g, 4, none⟩ = some (.slice r.lA r.ln r.lc) := hVB.out.2.blk.cell 4
            have HO := Lib.hid (hTI.out.vo.own.ext hVB.out.2.be)
            go_wp2_with (at_builtin; refine wpList_append_a _ rfl _ _ _ rfl 34 i0 _ 5 72 Try.underlying24 hi hz hz1 hz2 rfl (by decide) Wr.cells_len Wr.cells_one _ rs (by rfl) (HO.out.alloc _) _ (some ⟨wc.heap.size, 0, none⟩) [r] 1 1 (by rfl) rfl (lit_one wc r 34 rfl) h1.out h2.out ?_; intro v' w' hown' hchg hat; obtain ⟨A3, n3, c3', rfl, hn3, hle3, hmx3, hnil3⟩ := hown'.form; have HA := Lib.hid (And.intro hown' (And.intro hchg hat)); clear hown' hchg hat)
            go_roundg (gk - 1)
            case measure => omega
            case rel => exact ⟨j + 1, du, rs ++ [r], A3, n3, c3', by go_num, rfl, rfl, by omega, by omega, by rw [HDU.out]; exact hTI.out.next (Nat.le_refl _) hVB.out.2 hVB.out.1 HD.out hnx.out HA.out.1 HA.out.2.1 HA.out.2.2⟩
      · have ht2 : Hid (takeP sl l = (rs.map Wr.v, d, 0)) := by
          rw [Hid, ht.out, hTI.out.eq, List.drop_of_length_le (by rw [← hmk.out]; omega), takeS]
          simp [outT]
        have b2 : decide (j < m) = false := decide_eq_false hjn
        rw [hm0] at b2
        go_wp2
        refine bodyPost_ret (v := .tuple #[.slice A2 n2 c2, .int .i64 (d : Int), .int .i64 0]) (by simp [results, Try.results17, go_sem]) rfl ?_
        rw [ht2.out]
        exact ⟨hTI.out.be, A2, n2, c2, rs, rfl, rfl, hTI.out.vo⟩
end Go.Proofs.Ytiommdidkhohgaa.Wire
