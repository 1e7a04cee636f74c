/- frag: the program's Parse. -/
import Derived.Test.YtoneechcclndaaaFrD
import Derived.Outline
import Derived.BigQuiet
import Derived.Deep.QuietTactic
import Derived.Deep.RegionWith
import Derived.Deep.RegionHeld3
import Derived.Deep.DrawnRows
import Derived.Deep.LoopGhost
import Derived.Deep.DeepCutAuto
import Derived.Laws.EntriesVeiled
namespace Go.Proofs.Ytoneechcclndaaa.FForm
open Go.RowKit Go.ChangeShapes Go.WideShapes Go.ChangeAt
set_option linter.unusedVariables false
set_option linter.unusedSimpArgs false
attribute [local go_sem ↓] Go.wp_at_zero Go.wp_at_succ
open Go.Shelf Go.Proofs.Ytoneechcclndaaa.Word Go.Proofs.Ytoneechcclndaaa.Wire Go.Proofs.Ytoneechcclndaaa.Msg FragA FragB MayA Tree FCheck lawTorn FTr

theorem fnum_agg (r : Wr) (W : World) : Calls Try.prog 77 #[.agg #[.int .u64 (r.v.n : Int), .int .i64 r.v.i, .bool r.v.f, .slice r.bA r.bn r.bc, .slice r.lA r.ln r.lc]] W fun e w' => e = .returned (.int .i64 (numV r.v)) ∧ Below W.heap.size W w' := fnum_any r W
set_option maxHeartbeats 8000000 in
set_option maxRecDepth 100000 in
theorem parse20_any (l : List UInt8) (A : Option Addr) (n cap : Nat) (w : World) (hl : BySl w w.heap.size A l) (hn : Hid (n = l.length)) (hc : n ≤ cap) (hm : n ≤ 1000000000) : Calls Try.prog 49 #[.slice A n cap] w (RetFrs w (parseF l)) := by
  obtain ⟨i0, hi, hz, hz1, hz2⟩ := info_parts frInfo
  have HL := Lib.hid hl
  have ht0 : ∀ W, Below w.heap.size w W → Calls Try.prog 24 #[.string ⟨#[110]⟩, .slice A n cap] W (RetTake W (takeP [110] l)) := fun W h => take_any ⟨#[110]⟩ l A n cap W (by decide) (HL.out.ext h) hn hc (by omega)
  rw [head_take] at ht0
  clear hl
  cases hg : getW l with
  | none =>
    rw [hg] at ht0
    simp only at ht0
    have HT := Lib.hid ht0
    have hp : Hid (parseF l = ([], 200)) := parse_no1 hg
    clear ht0 hg
    go_enter Try.func49, Try.ntmps49
    go_wp2_with (go_at_call 24; refine (HT.out w (Below.refl _ _)).mono ?_; rintro e w1 ⟨hb1, A1, n1, c1, rs, rfl, hrs, hvo⟩)
    refine bodyPost_ret (v := .tuple #[.slice none 0 0, .int .i64 200]) (by simp [results, Try.results49, go_sem]) rfl ?_
    rw [hp.out]
    exact RetFrs.err hb1 200 rfl
  | some x =>
    obtain ⟨m, k⟩ := x
    rw [hg] at ht0
    simp only at ht0
    have HT := Lib.hid ht0
    have HG := Lib.hid hg
    have hgs := get_some hg
    have hmp : m < p64 := hgs.1
    have hkl : k ≤ n := by rw [hn.out]; exact hgs.2.2.2.1
    clear ht0 hg hgs
    by_cases hbig : 262144 < n
    · have d1 : decide ((262144 : Int) < (n : Int)) = true := decide_eq_true (by omega)
      have hp : Hid (parseF l = ([], 200)) := parse_no2 HG.out (by rw [← hn.out]; omega)
      go_enter Try.func49, Try.ntmps49
      go_wp2_with (go_at_call 24; refine (HT.out w (Below.refl _ _)).mono ?_; rintro e w1 ⟨hb1, A1, n1, c1, rs, rfl, hrs, hvo⟩)
      refine bodyPost_ret (v := .tuple #[.slice none 0 0, .int .i64 200]) (by simp [results, Try.results49, go_sem]) rfl ?_
      rw [hp.out]
      exact RetFrs.err hb1 200 rfl
    · have d1 : decide ((262144 : Int) < (n : Int)) = false := decide_eq_false (by omega)
      by_cases hmany : 2048 < m
      · have d2 : decide ((2048 : Int) < (m : Int)) = true := decide_eq_true (by omega)
        have hp : Hid (parseF l = ([], 200)) := parse_no2 HG.out (by omega)
        go_enter Try.func49, Try.ntmps49
        go_wp2_with ((go_at_call 24; refine (HT.out w (Below.refl _ _)).mono ?_; rintro e w1 ⟨hb1, A1, n1, c1, rs, rfl, hrs, hvo⟩); obtain ⟨rfl, b1, off1, rfl, hb1', h10, hvp⟩ := head1 hrs hvo; clear hrs hvo)
        refine bodyPost_ret (v := .tuple #[.slice none 0 0, .int .i64 200]) (by simp [results, Try.results49, go_sem]) rfl ?_
        rw [hp.out]
        exact RetFrs.err hb1 200 rfl
      · have d2 : decide ((2048 : Int) < (m : Int)) = false := decide_eq_false (by omega)
        have hm2 : m ≤ 2048 := by omega
        have hn2 : n ≤ 262144 := by omega
        clear hmany hbig
        go_enter Try.func49, Try.ntmps49
        go_wp2_with (first | ((go_at_call 24; refine (HT.out w (Below.refl _ _)).mono ?_; rintro e w1 ⟨hb1, A1, n1, c1, rs, rfl, hrs, hvo⟩); obtain ⟨rfl, b1, off1, rfl, hb1', h10, hvp⟩ := head1 hrs hvo; have HB1 := Lib.hid hb1; clear hrs hvo hb1) | (at_make; refine wpList_make_full _ rfl _ _ 60 rfl w.heap.size 65 i0 _ 8 Try.underlying60 hi hz hz1 _ _ _ _ m rfl rfl (by rfl) (by rfl) (by rw [hz2]; omega) (by unfold maxLen; omega) HB1.out.size ?_; intro w6 hmk hgr; have HM : Hid (PaI numV w w6 l k m 0 k w1.heap.size []) := (by exact ⟨by rw [Nat.sub_self]; rfl, Nat.le_refl _, by rw [← hn.out]; exact hkl, own_made hmk, HB1.out.grown hgr HB1.out.size (by simp), HB1.out.size⟩); clear hmk hgr))
        generalize w1.heap.size = g at *
        go_loopg [5, 39] m (fun gk v5 v39 wr => ∃ (j d : Nat) (vs : List (List WV)), v5 = .int .i64 (d : Int) ∧ v39 = .int .i64 (j : Int) ∧ m ≤ j + gk ∧ j ≤ m ∧ Hid (PaI numV w wr l k m j d g vs))
        case atStart => exact ⟨0, k, [], rfl, rfl, by omega, by omega, HM⟩
        case round =>
          obtain ⟨j, d, vs, rfl, rfl, hgk, hjm, hP⟩ := hrel
          have hdn : d ≤ n := by rw [hn.out]; exact hP.out.dn
          by_cases hlt : j < m
          · have hsl : ∀ W, (Instr.slice 25 (.slice A n cap) (some (.int .i64 (d : Int))) none none).run Try.prog W = .ok (.slice (cutA A cap d 1) (n - d) (cap - d)) W := fun W => by
              have := run_slice_lo (c := 1) Try.underlying25 (Option.isSome_iff_exists.1 (by kernel_rfl)) (by kernel_rfl) A n cap (d : Int) (by omega) (by omega) W
              simpa using this
            have hrow : ∀ W, Below w.heap.size w W → Calls Try.prog 24 #[.string ⟨#[110, 110, 110, 105, 105, 105, 105, 98]⟩, .slice (cutA A cap d 1) (n - d) (cap - d)] W (RetTake W (outT (takeS frK (l.drop d)))) := fun W h =>
              take_any ⟨#[110, 110, 110, 105, 105, 105, 105, 98]⟩ (l.drop d) (cutA A cap d 1) (n - d) (cap - d) W (by decide) (Sl.cut (HL.out.ext h) cap d (by rw [← hn.out]; exact hc)) (by rw [Hid, List.length_drop, hn.out]) (by omega) (by omega)
            generalize cutA A cap d 1 = Ac at *
            have b3 : decide (j < m) = true := decide_eq_true hlt
            have b0 : (0 : Int) ≤ (j : Int) := Int.natCast_nonneg _
            have b2 : (j : Int) < (m : Int) := by omega
            cases ht : takeS frK (l.drop d) with
            | none =>
              rw [ht] at hrow
              have HR := Lib.hid hrow
              have hp : Hid (parseF l = ([], 200)) := parse_no3 HG.out (j := j + 1) (by rw [rows_at hP.out.rows hP.out.kd, ht]) (by omega)
              clear hrow ht
              simp only [outT] at HR
              go_wp2_with (go_at_call 24; refine (HR.out _ hP.out.be).mono ?_; rintro e w7 ⟨hb7, A7, n7, c7, rs7, rfl, hrs7, hvo7⟩)
              refine bodyPost_ret (v := .tuple #[.slice none 0 0, .int .i64 200]) (by simp [results, Try.results49, go_sem]) rfl ?_
              rw [hp.out]
              exact RetFrs.err (ext_under hP.out.be (Nat.le_refl _) hb7) 200 rfl
            | some x =>
              obtain ⟨v, u⟩ := x
              rw [ht] at hrow
              have HR := Lib.hid hrow
              have HTS := Lib.hid ht
              have hu : d + u ≤ n := by
                have h1 := (put_takeS frK _ _ _ ht).2.2.2.2
                rw [List.length_drop, ← hn.out] at h1
                omega
              clear hrow ht
              simp only [outT] at HR
              have e1 : IntKind.i64.wrap ((d : Int) + (u : Int)) = ((d + u : Nat) : Int) := by rw [IntWalk.i64_in _ (by omega)]; omega
              go_upto_region 12 with (go_at_call 24; refine (HR.out _ hP.out.be).mono ?_; rintro e w7 ⟨hb7, A7, n7, c7, rs7, rfl, hrs7, hvo7⟩; have HB7 := Lib.hid (And.intro hb7 (And.intro hrs7 hvo7)); clear hb7 hrs7 hvo7)
              obtain ⟨r0, r1, r2, r3, r4, r5, r6, r7, rfl⟩ := eight_of HTS.out HB7.out.2.1
              have HO : Hid (ofG numV v = ⟨numV r0.v, numV r1.v, numV r2.v, r3.v.i, r4.v.i, r5.v.i, r6.v.i, ⟨r7.v.b.toArray⟩⟩) := by rw [Hid, ← HB7.out.2.1]; exact of_eight numV r0 r1 r2 r3 r4 r5 r6 r7
              have hsl7 := HB7.out.2.2.own.sl Wr.cells_len
              have hn7 : n7 = 8 := HB7.out.2.2.own.len
              subst hn7
              have hok7 := HB7.out.2.2.ok r7 (by simp)
              have hcv : Hid (∀ W', Below w7.heap.size w7 W' → (convert 25 9 (.slice r7.bA r7.bn r7.bc)).run Try.prog W' = .ok (.string ⟨r7.v.b.toArray⟩) W') := fun W' h =>
                conv_str r7.v.b r7.bA r7.bn r7.bc _ W' ((hok7.b.sl encB_len).ext h) hok7.b.len
              obtain ⟨vb, vo, rfl, hvb, x00, x01, x02, x03, x04⟩ := Wr.at_ hsl7 (j := 0) (r := r0) rfl
              obtain ⟨vb', vo', hA', _, x10, x11, x12, x13, x14⟩ := Wr.at_ hsl7 (j := 1) (r := r1) rfl
              obtain ⟨rfl, rfl⟩ : vb = vb' ∧ vo = vo' := by injection hA' with h; injection h with h1 h2; exact ⟨h1, h2⟩
              obtain ⟨vb', vo', hA', _, x20, x21, x22, x23, x24⟩ := Wr.at_ hsl7 (j := 2) (r := r2) rfl
              obtain ⟨rfl, rfl⟩ : vb = vb' ∧ vo = vo' := by injection hA' with h; injection h with h1 h2; exact ⟨h1, h2⟩
              obtain ⟨vb', vo', hA', _, _, x31, _⟩ := Wr.at_ hsl7 (j := 3) (r := r3) rfl
              obtain ⟨rfl, rfl⟩ : vb = vb' ∧ vo = vo' := by injection hA' with h; injection h with h1 h2; exact ⟨h1, h2⟩
              obtain ⟨vb', vo', hA', _, _, x41, _⟩ := Wr.at_ hsl7 (j := 4) (r := r4) rfl
              obtain ⟨rfl, rfl⟩ : vb = vb' ∧ vo = vo' := by injection hA' with h; injection h with h1 h2; exact ⟨h1, h2⟩
              obtain ⟨vb', vo', hA', _, _, x51, _⟩ := Wr.at_ hsl7 (j := 5) (r := r5) rfl
              obtain ⟨rfl, rfl⟩ : vb = vb' ∧ vo = vo' := by injection hA' with h; injection h with h1 h2; exact ⟨h1, h2⟩
              obtain ⟨vb', vo', hA', _, _, x61, _⟩ := Wr.at_ hsl7 (j := 6) (r := r6) rfl
              obtain ⟨rfl, rfl⟩ : vb = vb' ∧ vo = vo' := by injection hA' with h; injection h with h1 h2; exact ⟨h1, h2⟩
              obtain ⟨vb', vo', hA', _, _, _, _, x73, _⟩ := Wr.at_ hsl7 (j := 7) (r := r7) rfl
              obtain ⟨rfl, rfl⟩ : vb = vb' ∧ vo = vo' := by injection hA' with h; injection h with h1 h2; exact ⟨h1, h2⟩
              clear hA' hsl7 hok7
              simp only [Nat.zero_mul, Nat.one_mul, Nat.reduceMul, Nat.add_zero, Nat.add_assoc, Nat.reduceAdd] at x00 x01 x02 x03 x04 x10 x11 x12 x13 x14 x20 x21 x22 x23 x24 x31 x41 x51 x61 x73
              refine Uni.region (last := 37) (S := fun w' => Below w7.heap.size w7 w') (by kernel_rfl) ((Below.refl _ _).drew) ?_
              try simp only [Act.put, List.setIfInBounds_toArray, List.set_cons_zero, List.set_cons_succ]
              (refine Uni.WU.take (i := 0) (oi := { dst := some 55, op := _, type := _, pos := _, after := _, guard := _ }) (v := ?_) rfl (by kernel_rfl) (by kernel_rfl) (by decide) (by kernel_rfl) (by kernel_rfl) (Uni.Uni.run (by kernel_rfl) (by intro W' hS'; obtain ⟨hq1, hq2⟩ := bcell hS'; go_simp; try with_reducible rfl)) ?_; (try simp only [Act.put, List.setIfInBounds_toArray, List.set_cons_zero, List.set_cons_succ]))
              (refine Uni.WU.take (i := 1) (oi := { dst := some 56, op := _, type := _, pos := _, after := _, guard := _ }) (v := ?_) rfl (by kernel_rfl) (by kernel_rfl) (by decide) (by kernel_rfl) (by kernel_rfl) (Uni.Uni.run (by kernel_rfl) (by intro W' hS'; obtain ⟨hq1, hq2⟩ := bcell hS'; go_simp; try with_reducible rfl)) ?_; (try simp only [Act.put, List.setIfInBounds_toArray, List.set_cons_zero, List.set_cons_succ]))
              (refine Uni.WU.take (i := 2) (oi := { dst := some 57, op := _, type := _, pos := _, after := _, guard := _ }) (v := ?_) rfl (by kernel_rfl) (by kernel_rfl) (by decide) (by kernel_rfl) (by kernel_rfl) (Uni.Uni.run (by kernel_rfl) (by intro W' hS'; obtain ⟨hq1, hq2⟩ := bcell hS'; go_simp; try with_reducible rfl)) ?_; (try simp only [Act.put, List.setIfInBounds_toArray, List.set_cons_zero, List.set_cons_succ]))
              (refine Uni.WU.take (i := 3) (oi := { dst := some 58, op := _, type := _, pos := _, after := _, guard := _ }) (v := ?_) rfl (by kernel_rfl) (by kernel_rfl) (by decide) (by kernel_rfl) (by kernel_rfl) (Uni.Uni.run (by kernel_rfl) (by intro W' hS'; obtain ⟨hq1, hq2⟩ := bcell hS'; go_simp; try with_reducible rfl)) ?_; (try simp only [Act.put, List.setIfInBounds_toArray, List.set_cons_zero, List.set_cons_succ]))
              (refine Uni.WU.take (i := 4) (oi := { dst := some 59, op := _, type := _, pos := _, after := _, guard := _ }) (v := ?_) rfl (by kernel_rfl) (by kernel_rfl) (by decide) (by kernel_rfl) (by kernel_rfl) (Uni.Uni.run (by kernel_rfl) (by intro W' hS'; obtain ⟨hq1, hq2⟩ := bcell hS'; go_simp; try with_reducible rfl)) ?_; (try simp only [Act.put, List.setIfInBounds_toArray, List.set_cons_zero, List.set_cons_succ]))
              (refine Uni.WU.take (i := 5) (oi := { dst := some 60, op := _, type := _, pos := _, after := _, guard := _ }) (v := .int .i64 (numV r0.v)) rfl (by kernel_rfl) (by kernel_rfl) (by decide) (by kernel_rfl) (by kernel_rfl) (Uni.Uni.call (by kernel_rfl) (by intro W' hS'; go_simp; try with_reducible rfl) (fun W' hS' => (fnum_agg r0 W').mono fun e w' h => ⟨h.1, ext_under hS' (Nat.le_refl _) h.2⟩)) ?_; (try simp only [Act.put, List.setIfInBounds_toArray, List.set_cons_zero, List.set_cons_succ]))
              (refine Uni.WU.take (i := 6) (oi := { dst := some 61, op := _, type := _, pos := _, after := _, guard := _ }) (v := ?_) rfl (by kernel_rfl) (by kernel_rfl) (by decide) (by kernel_rfl) (by kernel_rfl) (Uni.Uni.run (by kernel_rfl) (by intro W' hS'; obtain ⟨hq1, hq2⟩ := bcell hS'; go_simp; try with_reducible rfl)) ?_; (try simp only [Act.put, List.setIfInBounds_toArray, List.set_cons_zero, List.set_cons_succ]))
              (refine Uni.WU.take (i := 7) (oi := { dst := some 62, op := _, type := _, pos := _, after := _, guard := _ }) (v := ?_) rfl (by kernel_rfl) (by kernel_rfl) (by decide) (by kernel_rfl) (by kernel_rfl) (Uni.Uni.run (by kernel_rfl) (by intro W' hS'; obtain ⟨hq1, hq2⟩ := bcell hS'; go_simp; try with_reducible rfl)) ?_; (try simp only [Act.put, List.setIfInBounds_toArray, List.set_cons_zero, List.set_cons_succ]))
              (refine Uni.WU.take (i := 8) (oi := { dst := some 63, op := _, type := _, pos := _, after := _, guard := _ }) (v := ?_) rfl (by kernel_rfl) (by kernel_rfl) (by decide) (by kernel_rfl) (by kernel_rfl) (Uni.Uni.run (by kernel_rfl) (by intro W' hS'; obtain ⟨hq1, hq2⟩ := bcell hS'; go_simp; try with_reducible rfl)) ?_; (try simp only [Act.put, List.setIfInBounds_toArray, List.set_cons_zero, List.set_cons_succ]))
              (refine Uni.WU.take (i := 9) (oi := { dst := some 64, op := _, type := _, pos := _, after := _, guard := _ }) (v := .int .i64 (numV r1.v)) rfl (by kernel_rfl) (by kernel_rfl) (by decide) (by kernel_rfl) (by kernel_rfl) (Uni.Uni.call (by kernel_rfl) (by intro W' hS'; go_simp; try with_reducible rfl) (fun W' hS' => (fnum_agg r1 W').mono fun e w' h => ⟨h.1, ext_under hS' (Nat.le_refl _) h.2⟩)) ?_; (try simp only [Act.put, List.setIfInBounds_toArray, List.set_cons_zero, List.set_cons_succ]))
              (refine Uni.WU.take (i := 10) (oi := { dst := some 65, op := _, type := _, pos := _, after := _, guard := _ }) (v := ?_) rfl (by kernel_rfl) (by kernel_rfl) (by decide) (by kernel_rfl) (by kernel_rfl) (Uni.Uni.run (by kernel_rfl) (by intro W' hS'; obtain ⟨hq1, hq2⟩ := bcell hS'; go_simp; try with_reducible rfl)) ?_; (try simp only [Act.put, List.setIfInBounds_toArray, List.set_cons_zero, List.set_cons_succ]))
              (refine Uni.WU.take (i := 11) (oi := { dst := some 66, op := _, type := _, pos := _, after := _, guard := _ }) (v := ?_) rfl (by kernel_rfl) (by kernel_rfl) (by decide) (by kernel_rfl) (by kernel_rfl) (Uni.Uni.run (by kernel_rfl) (by intro W' hS'; obtain ⟨hq1, hq2⟩ := bcell hS'; go_simp; try with_reducible rfl)) ?_; (try simp only [Act.put, List.setIfInBounds_toArray, List.set_cons_zero, List.set_cons_succ]))
              (refine Uni.WU.take (i := 12) (oi := { dst := some 67, op := _, type := _, pos := _, after := _, guard := _ }) (v := ?_) rfl (by kernel_rfl) (by kernel_rfl) (by decide) (by kernel_rfl) (by kernel_rfl) (Uni.Uni.run (by kernel_rfl) (by intro W' hS'; obtain ⟨hq1, hq2⟩ := bcell hS'; go_simp; try with_reducible rfl)) ?_; (try simp only [Act.put, List.setIfInBounds_toArray, List.set_cons_zero, List.set_cons_succ]))
              (refine Uni.WU.take (i := 13) (oi := { dst := some 68, op := _, type := _, pos := _, after := _, guard := _ }) (v := .int .i64 (numV r2.v)) rfl (by kernel_rfl) (by kernel_rfl) (by decide) (by kernel_rfl) (by kernel_rfl) (Uni.Uni.call (by kernel_rfl) (by intro W' hS'; go_simp; try with_reducible rfl) (fun W' hS' => (fnum_agg r2 W').mono fun e w' h => ⟨h.1, ext_under hS' (Nat.le_refl _) h.2⟩)) ?_; (try simp only [Act.put, List.setIfInBounds_toArray, List.set_cons_zero, List.set_cons_succ]))
              (refine Uni.WU.take (i := 14) (oi := { dst := some 69, op := _, type := _, pos := _, after := _, guard := _ }) (v := ?_) rfl (by kernel_rfl) (by kernel_rfl) (by decide) (by kernel_rfl) (by kernel_rfl) (Uni.Uni.run (by kernel_rfl) (by intro W' hS'; obtain ⟨hq1, hq2⟩ := bcell hS'; go_simp; try with_reducible rfl)) ?_; (try simp only [Act.put, List.setIfInBounds_toArray, List.set_cons_zero, List.set_cons_succ]))
              (refine Uni.WU.take (i := 15) (oi := { dst := some 70, op := _, type := _, pos := _, after := _, guard := _ }) (v := ?_) rfl (by kernel_rfl) (by kernel_rfl) (by decide) (by kernel_rfl) (by kernel_rfl) (Uni.Uni.run (by kernel_rfl) (by intro W' hS'; obtain ⟨hq1, hq2⟩ := bcell hS'; go_simp; try with_reducible rfl)) ?_; (try simp only [Act.put, List.setIfInBounds_toArray, List.set_cons_zero, List.set_cons_succ]))
              (refine Uni.WU.take (i := 16) (oi := { dst := some 71, op := _, type := _, pos := _, after := _, guard := _ }) (v := ?_) rfl (by kernel_rfl) (by kernel_rfl) (by decide) (by kernel_rfl) (by kernel_rfl) (Uni.Uni.run (by kernel_rfl) (by intro W' hS'; obtain ⟨hq1, hq2⟩ := bcell hS'; go_simp; try with_reducible rfl)) ?_; (try simp only [Act.put, List.setIfInBounds_toArray, List.set_cons_zero, List.set_cons_succ]))
              (refine Uni.WU.take (i := 17) (oi := { dst := some 72, op := _, type := _, pos := _, after := _, guard := _ }) (v := ?_) rfl (by kernel_rfl) (by kernel_rfl) (by decide) (by kernel_rfl) (by kernel_rfl) (Uni.Uni.run (by kernel_rfl) (by intro W' hS'; obtain ⟨hq1, hq2⟩ := bcell hS'; go_simp; try with_reducible rfl)) ?_; (try simp only [Act.put, List.setIfInBounds_toArray, List.set_cons_zero, List.set_cons_succ]))
              (refine Uni.WU.take (i := 18) (oi := { dst := some 73, op := _, type := _, pos := _, after := _, guard := _ }) (v := ?_) rfl (by kernel_rfl) (by kernel_rfl) (by decide) (by kernel_rfl) (by kernel_rfl) (Uni.Uni.run (by kernel_rfl) (by intro W' hS'; obtain ⟨hq1, hq2⟩ := bcell hS'; go_simp; try with_reducible rfl)) ?_; (try simp only [Act.put, List.setIfInBounds_toArray, List.set_cons_zero, List.set_cons_succ]))
              (refine Uni.WU.take (i := 19) (oi := { dst := some 74, op := _, type := _, pos := _, after := _, guard := _ }) (v := ?_) rfl (by kernel_rfl) (by kernel_rfl) (by decide) (by kernel_rfl) (by kernel_rfl) (Uni.Uni.run (by kernel_rfl) (by intro W' hS'; obtain ⟨hq1, hq2⟩ := bcell hS'; go_simp; try with_reducible rfl)) ?_; (try simp only [Act.put, List.setIfInBounds_toArray, List.set_cons_zero, List.set_cons_succ]))
              (refine Uni.WU.take (i := 20) (oi := { dst := some 75, op := _, type := _, pos := _, after := _, guard := _ }) (v := ?_) rfl (by kernel_rfl) (by kernel_rfl) (by decide) (by kernel_rfl) (by kernel_rfl) (Uni.Uni.run (by kernel_rfl) (by intro W' hS'; obtain ⟨hq1, hq2⟩ := bcell hS'; go_simp; try with_reducible rfl)) ?_; (try simp only [Act.put, List.setIfInBounds_toArray, List.set_cons_zero, List.set_cons_succ]))
              (refine Uni.WU.take (i := 21) (oi := { dst := some 76, op := _, type := _, pos := _, after := _, guard := _ }) (v := ?_) rfl (by kernel_rfl) (by kernel_rfl) (by decide) (by kernel_rfl) (by kernel_rfl) (Uni.Uni.run (by kernel_rfl) (by intro W' hS'; obtain ⟨hq1, hq2⟩ := bcell hS'; go_simp; try with_reducible rfl)) ?_; (try simp only [Act.put, List.setIfInBounds_toArray, List.set_cons_zero, List.set_cons_succ]))
              (refine Uni.WU.take (i := 22) (oi := { dst := some 77, op := _, type := _, pos := _, after := _, guard := _ }) (v := ?_) rfl (by kernel_rfl) (by kernel_rfl) (by decide) (by kernel_rfl) (by kernel_rfl) (Uni.Uni.run (by kernel_rfl) (by intro W' hS'; obtain ⟨hq1, hq2⟩ := bcell hS'; go_simp; try with_reducible rfl)) ?_; (try simp only [Act.put, List.setIfInBounds_toArray, List.set_cons_zero, List.set_cons_succ]))
              (refine Uni.WU.take (i := 23) (oi := { dst := some 78, op := _, type := _, pos := _, after := _, guard := _ }) (v := ?_) rfl (by kernel_rfl) (by kernel_rfl) (by decide) (by kernel_rfl) (by kernel_rfl) (Uni.Uni.run (by kernel_rfl) (by intro W' hS'; obtain ⟨hq1, hq2⟩ := bcell hS'; go_simp; try with_reducible rfl)) ?_; (try simp only [Act.put, List.setIfInBounds_toArray, List.set_cons_zero, List.set_cons_succ]))
              (refine Uni.WU.take (i := 24) (oi := { dst := some 79, op := _, type := _, pos := _, after := _, guard := _ }) (v := ?_) rfl (by kernel_rfl) (by kernel_rfl) (by decide) (by kernel_rfl) (by kernel_rfl) (Uni.Uni.run (by kernel_rfl) (by intro W' hS'; obtain ⟨hq1, hq2⟩ := bcell hS'; go_simp; try with_reducible rfl)) ?_; (try simp only [Act.put, List.setIfInBounds_toArray, List.set_cons_zero, List.set_cons_succ]))
              (refine Uni.WU.take (i := 25) (oi := { dst := some 80, op := _, type := _, pos := _, after := _, guard := _ }) (v := ?_) rfl (by kernel_rfl) (by kernel_rfl) (by decide) (by kernel_rfl) (by kernel_rfl) (Uni.Uni.run (by kernel_rfl) (by intro W' hS'; obtain ⟨hq1, hq2⟩ := bcell hS'; go_simp; try with_reducible rfl)) ?_; (try simp only [Act.put, List.setIfInBounds_toArray, List.set_cons_zero, List.set_cons_succ]))
              (refine Uni.WU.take (i := 26) (oi := { dst := some 81, op := _, type := _, pos := _, after := _, guard := _ }) (v := ?_) rfl (by kernel_rfl) (by kernel_rfl) (by decide) (by kernel_rfl) (by kernel_rfl) (Uni.Uni.run (by kernel_rfl) (by intro W' hS'; obtain ⟨hq1, hq2⟩ := bcell hS'; go_simp; try with_reducible rfl)) ?_; (try simp only [Act.put, List.setIfInBounds_toArray, List.set_cons_zero, List.set_cons_succ]))
              (refine Uni.WU.take (i := 27) (oi := { dst := some 82, op := _, type := _, pos := _, after := _, guard := _ }) (v := ?_) rfl (by kernel_rfl) (by kernel_rfl) (by decide) (by kernel_rfl) (by kernel_rfl) (Uni.Uni.run (by kernel_rfl) (by intro W' hS'; obtain ⟨hq1, hq2⟩ := bcell hS'; go_simp; try with_reducible rfl)) ?_; (try simp only [Act.put, List.setIfInBounds_toArray, List.set_cons_zero, List.set_cons_succ]))
              (refine Uni.WU.take (i := 28) (oi := { dst := some 83, op := _, type := _, pos := _, after := _, guard := _ }) (v := ?_) rfl (by kernel_rfl) (by kernel_rfl) (by decide) (by kernel_rfl) (by kernel_rfl) (Uni.Uni.run (by kernel_rfl) (by intro W' hS'; obtain ⟨hq1, hq2⟩ := bcell hS'; go_simp; try with_reducible rfl)) ?_; (try simp only [Act.put, List.setIfInBounds_toArray, List.set_cons_zero, List.set_cons_succ]))
              (refine Uni.WU.take (i := 29) (oi := { dst := some 84, op := _, type := _, pos := _, after := _, guard := _ }) (v := ?_) rfl (by kernel_rfl) (by kernel_rfl) (by decide) (by kernel_rfl) (by kernel_rfl) (Uni.Uni.run (by kernel_rfl) (by intro W' hS'; obtain ⟨hq1, hq2⟩ := bcell hS'; go_simp; try with_reducible rfl)) ?_; (try simp only [Act.put, List.setIfInBounds_toArray, List.set_cons_zero, List.set_cons_succ]))
              (refine Uni.WU.take (i := 30) (oi := { dst := some 85, op := _, type := _, pos := _, after := _, guard := _ }) (v := ?_) rfl (by kernel_rfl) (by kernel_rfl) (by decide) (by kernel_rfl) (by kernel_rfl) (Uni.Uni.run (by kernel_rfl) (by intro W' hS'; obtain ⟨hq1, hq2⟩ := bcell hS'; go_simp; try with_reducible rfl)) ?_; (try simp only [Act.put, List.setIfInBounds_toArray, List.set_cons_zero, List.set_cons_succ]))
              (refine Uni.WU.take (i := 31) (oi := { dst := some 86, op := _, type := _, pos := _, after := _, guard := _ }) (v := ?_) rfl (by kernel_rfl) (by kernel_rfl) (by decide) (by kernel_rfl) (by kernel_rfl) (Uni.Uni.run (by kernel_rfl) (by intro W' hS'; obtain ⟨hq1, hq2⟩ := bcell hS'; go_simp; try with_reducible rfl)) ?_; (try simp only [Act.put, List.setIfInBounds_toArray, List.set_cons_zero, List.set_cons_succ]))
              (refine Uni.WU.take (i := 32) (oi := { dst := some 87, op := _, type := _, pos := _, after := _, guard := _ }) (v := ?_) rfl (by kernel_rfl) (by kernel_rfl) (by decide) (by kernel_rfl) (by kernel_rfl) (Uni.Uni.run (by kernel_rfl) (by intro W' hS'; obtain ⟨hq1, hq2⟩ := bcell hS'; go_simp; try with_reducible rfl)) ?_; (try simp only [Act.put, List.setIfInBounds_toArray, List.set_cons_zero, List.set_cons_succ]))
              (refine Uni.WU.take (i := 33) (oi := { dst := some 88, op := _, type := _, pos := _, after := _, guard := _ }) (v := ?_) rfl (by kernel_rfl) (by kernel_rfl) (by decide) (by kernel_rfl) (by kernel_rfl) (Uni.Uni.run (by kernel_rfl) (by intro W' hS'; obtain ⟨hq1, hq2⟩ := bcell hS'; go_simp; try with_reducible rfl)) ?_; (try simp only [Act.put, List.setIfInBounds_toArray, List.set_cons_zero, List.set_cons_succ]))
              (refine Uni.WU.take (i := 34) (oi := { dst := some 89, op := _, type := _, pos := _, after := _, guard := _ }) (v := ?_) rfl (by kernel_rfl) (by kernel_rfl) (by decide) (by kernel_rfl) (by kernel_rfl) (Uni.Uni.run (by kernel_rfl) (by intro W' hS'; have hcw := hcv.out W' hS'; go_simp; try with_reducible rfl)) ?_; (try simp only [Act.put, List.setIfInBounds_toArray, List.set_cons_zero, List.set_cons_succ]))
              (refine Uni.WU.take (i := 35) (oi := { dst := some 90, op := _, type := _, pos := _, after := _, guard := _ }) (v := ?_) rfl (by kernel_rfl) (by kernel_rfl) (by decide) (by kernel_rfl) (by kernel_rfl) (Uni.Uni.run (by kernel_rfl) (by intro W' hS'; obtain ⟨hq1, hq2⟩ := bcell hS'; go_simp; try with_reducible rfl)) ?_; (try simp only [Act.put, List.setIfInBounds_toArray, List.set_cons_zero, List.set_cons_succ]))
              (refine Uni.WU.take (i := 36) (oi := { dst := some 91, op := _, type := _, pos := _, after := _, guard := _ }) (v := ?_) rfl (by kernel_rfl) (by kernel_rfl) (by decide) (by kernel_rfl) (by kernel_rfl) (Uni.Uni.run (by kernel_rfl) (by intro W' hS'; obtain ⟨hq1, hq2⟩ := bcell hS'; go_simp; try with_reducible rfl)) ?_; (try simp only [Act.put, List.setIfInBounds_toArray, List.set_cons_zero, List.set_cons_succ]))
              refine Uni.WU.last (o := { dst := none, op := _, type := _, pos := _, after := _, guard := _ }) rfl rfl (by kernel_rfl) (by kernel_rfl) (fun wx hS => ?_)
              refine wp_store_fr (.tmp 91) (.tmp 90) rfl (k := j) (⟨numV r0.v, numV r1.v, numV r2.v, r3.v.i, r4.v.i, r5.v.i, r6.v.i, ⟨r7.v.b.toArray⟩⟩ : Fr) (by first | rfl | simp [Act.eval]) rfl (hP.out.own.ext (ext_under HB7.out.1 (Nat.le_refl _) hS)) (hP.out.slot hlt) fun w9 hown9 hchg9 => ?_
              rw [← HO.out] at hown9
              have HN := Lib.hid (hP.out.next hlt HTS.out (ext_under HB7.out.1 (Nat.le_refl _) hS) hown9 hchg9)
              clear hown9 hchg9 hS x00 x01 x02 x03 x04 x10 x11 x12 x13 x14 x20 x21 x22 x23 x24 x31 x41 x51 x61 x73
              go_wp2
              go_roundg (gk - 1)
              case measure => omega
              case rel => exact ⟨j + 1, d + u, vs ++ [v], rfl, by go_num, by omega, by omega, HN⟩
          · have hjm' : j = m := by omega
            subst hjm'
            have b2 : ¬ (j : Int) < (j : Int) := by omega
            have b3 : decide (j < j) = false := decide_eq_false hlt
            have hrows := hP.out.rows
            have hown : OwnA wr 65 8 Fr.cells (.slice (some ⟨g, 0, none⟩) j j) (vs.map (ofG numV)) := by
              have h := hP.out.own
              rwa [Nat.sub_self, List.replicate_zero, List.append_nil] at h
            have HO := Lib.hid (And.intro hown hrows)
            have hwf : Hid (FrsWf (vs.map (ofG numV))) := fun f hf => by
              obtain ⟨v, hv, rfl⟩ := List.mem_map.1 hf
              exact num_wf numV numV_bd (rows_wf _ _ _ _ hrows v hv)
            have hkd := hP.out.kd
            clear hown hrows
            by_cases hlt2 : d < n
            · have d4 : decide ((d : Int) < (n : Int)) = true := decide_eq_true (by omega)
              have d5 : decide (d < n) = true := decide_eq_true hlt2
              have hp : Hid (parseF l = ([], 200)) := parse_no4 HG.out HO.out.2 (fun h => by have := h.1; rw [← hn.out] at this; omega)
              go_wp2
              refine bodyPost_ret (v := .tuple #[.slice none 0 0, .int .i64 200]) (by simp [results, Try.results49, go_sem]) rfl ?_
              rw [hp.out]
              exact RetFrs.err hP.out.be 200 rfl
            · have d4 : decide ((d : Int) < (n : Int)) = false := decide_eq_false (by omega)
              have d5 : decide (d < n) = false := decide_eq_false hlt2
              have hnl := HO.out.1.len
              by_cases hck : chk (vs.map (ofG numV)) = 0
              · have hp : Hid (parseF l = (vs.map (ofG numV), 0)) := parse_yes HG.out (by rw [← hn.out]; omega) HO.out.2 ⟨by rw [← hn.out]; omega, hck⟩
                have HC := Lib.hid (chk_v _ (some ⟨g, 0, none⟩) j j wr 0 (HO.out.1.sl Fr.cells_len) hwf.out hnl hck)
                clear hck hnl hkd
                generalize vs.map (ofG numV) = L at *
                go_wp2_with (go_at_call 41; refine HC.out.mono ?_; rintro e w8 ⟨rfl, hb8⟩)
                refine bodyPost_ret (v := .tuple #[.slice (some ⟨g, 0, none⟩) j j, .int .i64 0]) (by simp [results, Try.results49, go_sem]) rfl ?_
                rw [hp.out]
                exact ⟨ext_under hP.out.be (Nat.le_refl _) hb8, some ⟨g, 0, none⟩, j, j, rfl, HO.out.1.ext hb8, fun k hk => by simp [Value.ownBlock] at hk; have := hP.out.fr; omega⟩
              · have hp : Hid (parseF l = ([], 200)) := parse_no4 HG.out HO.out.2 (fun h => hck h.2)
                obtain ⟨cz, hcz⟩ : ∃ cz, chk (vs.map (ofG numV)) = cz := ⟨_, rfl⟩
                have HC := Lib.hid (chk_v _ (some ⟨g, 0, none⟩) j j wr cz (HO.out.1.sl Fr.cells_len) hwf.out hnl hcz)
                have hne : (cz != 0) = true := by rw [← hcz]; simpa using hck
                clear hck hnl hkd hcz
                generalize vs.map (ofG numV) = L at *
                go_wp2_with (go_at_call 41; refine HC.out.mono ?_; rintro e w8 ⟨rfl, hb8⟩)
                refine bodyPost_ret (v := .tuple #[.slice none 0 0, .int .i64 200]) (by simp [results, Try.results49, go_sem]) rfl ?_
                rw [hp.out]
                exact RetFrs.err (ext_under hP.out.be (Nat.le_refl _) hb8) 200 rfl
end Go.Proofs.Ytoneechcclndaaa.FForm
