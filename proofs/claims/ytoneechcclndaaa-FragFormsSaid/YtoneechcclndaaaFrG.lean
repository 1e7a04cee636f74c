/- frag: the document's Parse. -/
import Derived.Test.YtoneechcclndaaaFrF
import Derived.Test.YtoneechcclndaaaRTree
import Derived.Outline
import Derived.BigQuiet
import Derived.Deep.QuietTactic
import Derived.Deep.RegionWith
import Derived.Deep.RegionHeld3
import Derived.Deep.DrawnRows
import Derived.Deep.LoopGhost
import Derived.Deep.DeepCutAuto
import Derived.Laws.EntriesVeiled
namespace Go.Proofs.Ytoneechcclndaaa.FForm
open Go.RowKit Go.ChangeShapes Go.WideShapes Go.ChangeAt
set_option linter.unusedVariables false
set_option linter.unusedSimpArgs false
attribute [local go_sem ↓] Go.wp_at_zero Go.wp_at_succ
open Go.Shelf Go.Proofs.Ytoneechcclndaaa.Word Go.Proofs.Ytoneechcclndaaa.Wire Go.Proofs.Ytoneechcclndaaa.Msg FragA FragB MayA Tree FCheck lawTorn FTr

theorem rchk_v (l : List Fr) (A : Option Addr) (n cap : Nat) (w : World) (v : Int) (hl : FrSl w w.heap.size A l) (hw : FrsWf l) (hn : Hid (n = l.length)) (h63 : n ≤ maxLen) (hv : chk l = v) : Calls Try.prog 75 #[.slice A n cap] w fun e w' => e = .returned (.int .i64 v) ∧ Below w.heap.size w w' := by
  subst hv; exact RTree.rcheck_any l A n cap w hl hw hn h63
/-- how far Parse has come -/
structure PaR (w wr : World) (l : List UInt8) (k j d : Nat) (vs : List (List WV)) (A : Option Addr) (n c : Nat) : Prop where
  rows : rowsV (l.drop k) j = some (vs, d - k)
  kd : k ≤ d
  dn : d ≤ l.length
  own : OwnA wr 65 8 Fr.cells (.slice A n c) (vs.map (ofG natR))
  be : Below w.heap.size w wr
  fr : ∀ k, (Value.slice A n c).ownBlock = some k → w.heap.size ≤ k
theorem PaR.next {w wr wx w' : World} {l : List UInt8} {k j d u : Nat} {vs : List (List WV)} {v : List WV} {A A' : Option Addr} {n c n' c' : Nat} (h : PaR w wr l k j d vs A n c) (ht : takeS frK (l.drop d) = some (v, u)) (hb : Below wr.heap.size wr wx)
    (hown : OwnA w' 65 8 Fr.cells (.slice A' n' c') (vs.map (ofG natR) ++ [ofG natR v])) (hc : Chg (fun i => (Value.slice A n c).ownBlock = some i) wx w') (hat : (Value.slice A' n' c').ownBlock = (Value.slice A n c).ownBlock ∨ (Value.slice A' n' c').ownBlock = some wx.heap.size) : PaR w w' l k (j + 1) (d + u) (vs ++ [v]) A' n' c' := by
  have hu := (put_takeS frK _ _ _ ht).2.2.2.2
  rw [List.length_drop] at hu
  have hkd := h.kd
  have hdn := h.dn
  rw [show vs.map (ofG natR) ++ [ofG natR v] = (vs ++ [v]).map (ofG natR) from by simp] at hown
  have hb1 := ext_under h.be (Nat.le_refl _) hb
  refine ⟨?_, by omega, by omega, hown, hb1.trans (hc.below hb1.size fun i hi hs => by have := h.fr _ hs; omega), fun k hk => ?_⟩
  · rw [rows_at h.rows h.kd, ht, show d + u - k = d - k + u from by omega]
  · rcases hat with hat | hat
    · exact h.fr k (hat ▸ hk)
    · rw [hat] at hk; injection hk with hk; have := hb1.size; omega
set_option maxHeartbeats 8000000 in
set_option maxRecDepth 100000 in
theorem rparse20_any (l : List UInt8) (A : Option Addr) (n cap : Nat) (w : World) (hl : BySl w w.heap.size A l) (hn : Hid (n = l.length)) (hc : n ≤ cap) (hm : n ≤ 1000000000) : Calls Try.prog 50 #[.slice A n cap] w (RetFrs w (parseF l)) := by
  rw [← parse_nat]
  obtain ⟨i0, hi, hz, hz1, hz2⟩ := info_parts frInfo
  have HL := Lib.hid hl
  have ht0 : ∀ W, Below w.heap.size w W → Calls Try.prog 78 #[.string ⟨#[110]⟩, .slice A n cap] W (RetTake W (takeP [110] l)) := fun W h => rtake_any ⟨#[110]⟩ l A n cap W (by decide) (HL.out.ext h) hn hc (by omega)
  rw [head_take] at ht0
  clear hl
  cases hg : getW l with
  | none =>
    rw [hg] at ht0
    simp only at ht0
    have HT := Lib.hid ht0
    have hp : Hid (parseG natR l = ([], 200)) := parse_no1 hg
    clear ht0 hg
    go_enter Try.func50, Try.ntmps50
    go_wp2_with (go_at_call 78; refine (HT.out w (Below.refl _ _)).mono ?_; rintro e w1 ⟨hb1, A1, n1, c1, rs, rfl, hrs, hvo⟩)
    refine bodyPost_ret (v := .tuple #[.slice none 0 0, .int .i64 200]) (by simp [results, Try.results50, go_sem]) rfl ?_
    rw [hp.out]
    exact RetFrs.err hb1 200 rfl
  | some x =>
    obtain ⟨m, k⟩ := x
    rw [hg] at ht0
    simp only at ht0
    have HT := Lib.hid ht0
    have HG := Lib.hid hg
    have hgs := get_some hg
    have hmp : m < p64 := hgs.1
    have hkl : k ≤ n := by rw [hn.out]; exact hgs.2.2.2.1
    clear ht0 hg hgs
    by_cases hmany : 2048 < m
    · have d2 : decide ((2048 : Int) < (m : Int)) = true := decide_eq_true (by omega)
      have hp : Hid (parseG natR l = ([], 200)) := parse_no2 HG.out (by omega)
      go_enter Try.func50, Try.ntmps50
      go_wp2_with ((go_at_call 78; refine (HT.out w (Below.refl _ _)).mono ?_; rintro e w1 ⟨hb1, A1, n1, c1, rs, rfl, hrs, hvo⟩); obtain ⟨rfl, b1, off1, rfl, hb1', h10, hvp⟩ := head1 hrs hvo; clear hrs hvo)
      refine bodyPost_ret (v := .tuple #[.slice none 0 0, .int .i64 200]) (by simp [results, Try.results50, go_sem]) rfl ?_
      rw [hp.out]
      exact RetFrs.err hb1 200 rfl
    · have d2 : decide ((2048 : Int) < (m : Int)) = false := decide_eq_false (by omega)
      by_cases hbig : 262144 < n
      · have d1 : decide ((262144 : Int) < (n : Int)) = true := decide_eq_true (by omega)
        have hp : Hid (parseG natR l = ([], 200)) := parse_no2 HG.out (by rw [← hn.out]; omega)
        go_enter Try.func50, Try.ntmps50
        go_wp2_with ((go_at_call 78; refine (HT.out w (Below.refl _ _)).mono ?_; rintro e w1 ⟨hb1, A1, n1, c1, rs, rfl, hrs, hvo⟩); obtain ⟨rfl, b1, off1, rfl, hb1', h10, hvp⟩ := head1 hrs hvo; clear hrs hvo)
        refine bodyPost_ret (v := .tuple #[.slice none 0 0, .int .i64 200]) (by simp [results, Try.results50, go_sem]) rfl ?_
        rw [hp.out]
        exact RetFrs.err hb1 200 rfl
      · have d1 : decide ((262144 : Int) < (n : Int)) = false := decide_eq_false (by omega)
        have hm2 : m ≤ 2048 := by omega
        have hn2 : n ≤ 262144 := by omega
        have e3 : IntKind.i64.wrap (m : Int) = (m : Int) := IntWalk.i64_in _ (by omega)
        clear hmany hbig
        go_enter Try.func50, Try.ntmps50
        go_wp2_with ((go_at_call 78; refine (HT.out w (Below.refl _ _)).mono ?_; rintro e w1 ⟨hb1, A1, n1, c1, rs, rfl, hrs, hvo⟩); obtain ⟨rfl, b1, off1, rfl, hb1', h10, hvp⟩ := head1 hrs hvo; have HB1 := Lib.hid hb1; clear hrs hvo hb1)
        have H10 := Lib.hid h10
        clear h10
        go_loopg [5, 7, 8] m (fun gk v5 v7 v8 wr => ∃ (j d : Nat) (vs : List (List WV)) (A2 : Option Addr) (n2 c2 : Nat), v5 = .int .i64 (d : Int) ∧ v7 = .slice A2 n2 c2 ∧ v8 = .int .i64 (j : Int) ∧ m ≤ j + gk ∧ j ≤ m ∧ Hid (PaR w1 wr l k j d vs A2 n2 c2))
        case atStart => exact ⟨0, k, [], none, 0, 0, rfl, rfl, rfl, by omega, by omega, ⟨by rw [Nat.sub_self]; rfl, Nat.le_refl _, by rw [← hn.out]; exact hkl, OwnA.nil_ _ _ _ _, Below.refl _ _, fun k hk => by cases hk⟩⟩
        case round =>
          obtain ⟨j, d, vs, A2, n2, c2, rfl, rfl, rfl, hgk, hjm, hP⟩ := hrel
          have hdn : d ≤ n := by rw [hn.out]; exact hP.out.dn
          have h10 := (hP.out.be.cell (p := ⟨b1, off1, none⟩) hb1').trans H10.out
          have hbe := Lib.hid (ext_under HB1.out (Nat.le_refl _) hP.out.be)
          by_cases hlt : j < m
          · have hsl : ∀ W, (Instr.slice 25 (.slice A n cap) (some (.int .i64 (d : Int))) none none).run Try.prog W = .ok (.slice (cutA A cap d 1) (n - d) (cap - d)) W := fun W => by
              have := run_slice_lo (c := 1) Try.underlying25 (Option.isSome_iff_exists.1 (by kernel_rfl)) (by kernel_rfl) A n cap (d : Int) (by omega) (by omega) W
              simpa using this
            have hrow : ∀ W, Below w.heap.size w W → Calls Try.prog 78 #[.string ⟨#[110, 110, 110, 105, 105, 105, 105, 98]⟩, .slice (cutA A cap d 1) (n - d) (cap - d)] W (RetTake W (outT (takeS frK (l.drop d)))) := fun W h =>
              rtake_any ⟨#[110, 110, 110, 105, 105, 105, 105, 98]⟩ (l.drop d) (cutA A cap d 1) (n - d) (cap - d) W (by decide) (Sl.cut (HL.out.ext h) cap d (by rw [← hn.out]; exact hc)) (by rw [Hid, List.length_drop, hn.out]) (by omega) (by omega)
            generalize cutA A cap d 1 = Ac at *
            have b3 : decide (j < m) = true := decide_eq_true hlt
            cases ht : takeS frK (l.drop d) with
            | none =>
              rw [ht] at hrow
              have HR := Lib.hid hrow
              have hp : Hid (parseG natR l = ([], 200)) := parse_no3 HG.out (j := j + 1) (by rw [rows_at hP.out.rows hP.out.kd, ht]) (by omega)
              clear hrow ht
              simp only [outT] at HR
              go_wp2_with (go_at_call 78; refine (HR.out _ hbe.out).mono ?_; rintro e w7 ⟨hb7, A7, n7, c7, rs7, rfl, hrs7, hvo7⟩)
              refine bodyPost_ret (v := .tuple #[.slice none 0 0, .int .i64 200]) (by simp [results, Try.results50, go_sem]) rfl ?_
              rw [hp.out]
              exact RetFrs.err (ext_under hbe.out (Nat.le_refl _) hb7) 200 rfl
            | some x =>
              obtain ⟨v, u⟩ := x
              rw [ht] at hrow
              have HR := Lib.hid hrow
              have HTS := Lib.hid ht
              have hu : d + u ≤ n := by
                have h1 := (put_takeS frK _ _ _ ht).2.2.2.2
                rw [List.length_drop, ← hn.out] at h1
                omega
              have hlen := rows_len_j hP.out.rows
              have h1 : Hid ((vs.map (ofG natR)).length + [ofG natR v].length ≤ maxLen) := by rw [Hid, List.length_map, hlen]; simp [maxLen]; omega
              have h2 : Hid (((vs.map (ofG natR)).length + [ofG natR v].length) * 72 ≤ 140737488355328) := by rw [Hid, List.length_map, hlen]; simp; omega
              clear hrow ht hlen
              simp only [outT] at HR
              have e1 : IntKind.i64.wrap ((d : Int) + (u : Int)) = ((d + u : Nat) : Int) := by rw [IntWalk.i64_in _ (by omega)]; omega
              go_upto_region 11 with (go_at_call 78; refine (HR.out _ hbe.out).mono ?_; rintro e w7 ⟨hb7, A7, n7, c7, rs7, rfl, hrs7, hvo7⟩; have HB7 := Lib.hid (And.intro hb7 (And.intro hrs7 hvo7)); clear hb7 hrs7 hvo7)
              obtain ⟨r0, r1, r2, r3, r4, r5, r6, r7, rfl⟩ := eight_of HTS.out HB7.out.2.1
              have HO : Hid (ofG natR v = ⟨natR r0.v, natR r1.v, natR r2.v, r3.v.i, r4.v.i, r5.v.i, r6.v.i, ⟨r7.v.b.toArray⟩⟩) := by rw [Hid, ← HB7.out.2.1]; exact of_eight natR r0 r1 r2 r3 r4 r5 r6 r7
              have hok7 := HB7.out.2.2.ok r7 (by simp)
              have hof := of20_any r0 r1 r2 r3 r4 r5 r6 r7 A7 n7 c7 w7 (HB7.out.2.2.own.sl Wr.cells_len) HB7.out.2.2.own.len (hok7.b.sl encB_len) hok7.b.len
              rw [← HO.out] at hof
              generalize hfe : ofG natR v = f at *
              have HF := Lib.hid hfe
              clear hfe
              unfold Fr.agg at hof
              have HOF := Lib.hid hof
              clear hof hok7
              go_wp2_with (first | (go_at_call 79; refine HOF.out.mono ?_; rintro e w8 ⟨rfl, hb8⟩; have HB8 := Lib.hid (ext_under HB7.out.1 (Nat.le_refl _) hb8); clear hb8) | (at_builtin; refine wpList_append_a _ rfl _ _ _ rfl 65 i0 _ 8 72 Try.underlying60 hi hz hz1 hz2 rfl (by decide) Fr.cells_len Fr.cells_one _ (vs.map (ofG natR)) (by rfl) ((hP.out.own.ext HB8.out).alloc _) _ (some ⟨w8.heap.size, 0, none⟩) [f] 1 1 (by rfl) rfl (lit_list w8 [f] 65 Fr.cells_len) h1.out h2.out ?_; intro v' w9 hown9 hchg9 hat9; obtain ⟨A9, n9, c9, rfl, hn9, hle9, hmx9, hnil9⟩ := hown9.form; have HN := Lib.hid (And.intro hown9 (And.intro hchg9 hat9)); clear hown9 hchg9 hat9))
              have HN2 : Hid (PaR w1 w9 l k (j + 1) (d + u) (vs ++ [v]) A9 n9 c9) := by
                have h := HN.out
                rw [← HF.out] at h
                exact hP.out.next HTS.out (HB8.out.alloc HB8.out.size _) h.1 h.2.1 h.2.2
              go_roundg (gk - 1)
              case measure => omega
              case rel => exact ⟨j + 1, d + u, vs ++ [v], A9, n9, c9, rfl, rfl, by go_num, by omega, by omega, HN2⟩
          · have hjm' : j = m := by omega
            subst hjm'
            have b3 : decide (j < j) = false := decide_eq_false hlt
            have b4 : ¬ (j : Int) < (j : Int) := by omega
            have HO := Lib.hid (And.intro hP.out.own hP.out.rows)
            have hwf : Hid (FrsWf (vs.map (ofG natR))) := fun f hf => by
              obtain ⟨v, hv, rfl⟩ := List.mem_map.1 hf
              exact num_wf natR natR_bd (rows_wf _ _ _ _ hP.out.rows v hv)
            have hkd := hP.out.kd
            by_cases hlt2 : d < n
            · have d4 : decide ((d : Int) < (n : Int)) = true := decide_eq_true (by omega)
              have d5 : decide (d < n) = true := decide_eq_true hlt2
              have hp : Hid (parseG natR l = ([], 200)) := parse_no4 HG.out HO.out.2 (fun h => by have := h.1; rw [← hn.out] at this; omega)
              go_wp2
              refine bodyPost_ret (v := .tuple #[.slice none 0 0, .int .i64 200]) (by simp [results, Try.results50, go_sem]) rfl ?_
              rw [hp.out]
              exact RetFrs.err hbe.out 200 rfl
            · have d4 : decide ((d : Int) < (n : Int)) = false := decide_eq_false (by omega)
              have d5 : decide (d < n) = false := decide_eq_false hlt2
              have hnl : Hid (n2 = (vs.map (ofG natR)).length) := HO.out.1.len
              have hn2b : n2 ≤ maxLen := by have h := rows_len_j HO.out.2; rw [hnl.out, List.length_map]; unfold maxLen; omega
              by_cases hck : chk (vs.map (ofG natR)) = 0
              · have hp : Hid (parseG natR l = (vs.map (ofG natR), 0)) := parse_yes HG.out (by rw [← hn.out]; omega) HO.out.2 ⟨by rw [← hn.out]; omega, hck⟩
                have HC := Lib.hid (rchk_v _ A2 n2 c2 wr 0 (HO.out.1.sl Fr.cells_len) hwf.out hnl hn2b hck)
                clear hck hkd
                generalize vs.map (ofG natR) = L at *
                go_wp2_with (go_at_call 75; refine HC.out.mono ?_; rintro e w8 ⟨rfl, hb8⟩)
                refine bodyPost_ret (v := .tuple #[.slice A2 n2 c2, .int .i64 0]) (by simp [results, Try.results50, go_sem]) rfl ?_
                rw [hp.out]
                exact ⟨ext_under hbe.out (Nat.le_refl _) hb8, A2, n2, c2, rfl, HO.out.1.ext hb8, fun k hk => by have := hP.out.fr k hk; have := HB1.out.size; omega⟩
              · have hp : Hid (parseG natR l = ([], 200)) := parse_no4 HG.out HO.out.2 (fun h => hck h.2)
                obtain ⟨cz, hcz⟩ : ∃ cz, chk (vs.map (ofG natR)) = cz := ⟨_, rfl⟩
                have HC := Lib.hid (rchk_v _ A2 n2 c2 wr cz (HO.out.1.sl Fr.cells_len) hwf.out hnl hn2b hcz)
                have hne : (cz != 0) = true := by rw [← hcz]; simpa using hck
                clear hck hkd hcz
                generalize vs.map (ofG natR) = L at *
                go_wp2_with (go_at_call 75; refine HC.out.mono ?_; rintro e w8 ⟨rfl, hb8⟩)
                refine bodyPost_ret (v := .tuple #[.slice none 0 0, .int .i64 200]) (by simp [results, Try.results50, go_sem]) rfl ?_
                rw [hp.out]
                exact RetFrs.err (ext_under hbe.out (Nat.le_refl _) hb8) 200 rfl
end Go.Proofs.Ytoneechcclndaaa.FForm
