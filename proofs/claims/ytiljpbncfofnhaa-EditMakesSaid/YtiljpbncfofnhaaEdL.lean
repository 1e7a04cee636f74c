/- edit: the document's Apply. -/
import Derived.Test.YtiljpbncfofnhaaEdJ
import Derived.Test.YtiljpbncfofnhaaEdK
import Derived.Test.YtiljpbncfofnhaaRTree
import Derived.Outline
import Derived.BigQuiet
import Derived.Deep.QuietTactic
import Derived.Deep.RegionWith
import Derived.Deep.RegionHeld3
import Derived.Deep.DrawnRows
import Derived.Deep.LoopGhost
import Derived.Deep.DeepCutAuto
import Derived.Laws.EntriesVeiled
namespace Go.Proofs.Ytiljpbncfofnhaa.EdF
open Go.RowKit Go.ChangeShapes Go.WideShapes Go.ChangeAt
set_option linter.unusedVariables false
set_option linter.unusedSimpArgs false
attribute [local go_sem ↓] Go.wp_at_zero Go.wp_at_succ
open MayA FragA FragB EdC Tree

theorem fr_lit2 (w : World) (o : Obj) (f : Fr) : Sl ((w.alloc o).alloc (.cells #[.int .i64 f.node, .int .i64 f.part, .int .i64 f.depth, .int .i64 f.x, .int .i64 f.y, .int .i64 f.w, .int .i64 f.h, .string f.text] 67)) ((w.alloc o).alloc (.cells #[.int .i64 f.node, .int .i64 f.part, .int .i64 f.depth, .int .i64 f.x, .int .i64 f.y, .int .i64 f.w, .int .i64 f.h, .string f.text] 67)).heap.size 8 Fr.cells (some ⟨w.heap.size + 1, 0, none⟩) [f] := by
  have h := fr_lit (w.alloc o) f
  rw [show (w.alloc o).heap.size = w.heap.size + 1 from by simp] at h
  exact h
set_option maxRecDepth 100000 in
set_option maxHeartbeats 16000000 in
theorem rapply_any (l : List Fr) (es : List Ed) (A : Option Addr) (n cap : Nat) (B : Option Addr) (m c2 : Nat) (w : World) (hl : FrSl w w.heap.size A l) (hw : FrsWf l) (hn : Hid (n = l.length)) (he : EdSl w w.heap.size B es) (hew : EdsWf es) (hm : Hid (m = es.length)) (h63 : l.length ≤ 100000000) (m63 : m ≤ maxLen) :
    Calls Try.prog 44 #[.slice A n cap, .slice B m c2] w (RetAp w (applyE l es)) := by
  unfold maxLen at m63
  have HA := Lib.hid hl
  have HE := Lib.hid (And.intro he hew)
  have HWf := Lib.hid hw
  have hnI : n ≤ 100000000 := by have h := hn.out; omega
  clear hl he hew hw
  by_cases t1 : 4096 < m
  · have hr := Lib.hid (show applyE l es = ([], 4) by rw [applyE, if_pos (by rw [← hm.out]; exact t1)])
    have q1 : decide ((4096 : Int) < (m : Int)) = true := decide_eq_true (by omega)
    go_enter Try.func44, Try.ntmps44
    go_wp2
    go_ret2
    exact RetAp.nil_ hr.out (Below.refl _ _)
  · have q1 : decide ((4096 : Int) < (m : Int)) = false := decide_eq_false (by omega)
    have HC := Lib.hid (RTree.rcheck_any l A n cap w HA.out HWf.out hn (by simp [maxLen]; omega))
    obtain ⟨i0, hi0, hz, hz1, hz2⟩ := info_parts frInfo
    by_cases t2 : chk l = 0
    · rw [t2] at HC
      have hr := Lib.hid (show applyE l es = (match runE l es (0, []) with
        | none => (([] : List Fr), (210 : Int))
        | some (k, out) => if k < l.length ∨ chk out ≠ 0 then ([], 210) else (out, 0)) by rw [applyE, if_neg (by rw [← hm.out]; omega), if_neg (by simp [t2])]; rfl)
      clear t2
      go_enter Try.func44, Try.ntmps44
      go_wp2_with fail
      refine (HC.out).mono ?_; rintro r w1 ⟨rfl, hb1⟩
      have HB1 := Lib.hid hb1
      clear hb1
      go_wp2_with fail
      go_loopg [6, 7, 8] m (fun gk v6 v7 v8 wr => ∃ (j k : Nat) (out : List Fr) (A3 : Option Addr) (n3 c3 : Nat), v6 = .slice A3 n3 c3 ∧ v7 = .int .i64 (k : Int) ∧ v8 = .int .i64 (j : Int) ∧ m ≤ j + gk ∧ j ≤ m ∧ k ≤ l.length ∧ out.length ≤ 2049 * j ∧ Hid (FrsWf out) ∧ Hid (RaI w wr (.slice A3 n3 c3) out) ∧ Hid (runE l es (0, []) = runE l (es.drop j) (k, out)))
      case atStart => exact ⟨0, 0, [], none, 0, 0, rfl, rfl, rfl, by omega, by omega, by omega, by simp, fun f hf => (by cases hf), ⟨OwnA.nil_ _ _ _ _, fun b h => (by cases h), HB1.out⟩, rfl⟩
      case round =>
        obtain ⟨j, k, out, A3, n3, c3, rfl, rfl, rfl, hgk, hj, hkl, hol, hwf, hR, hrun⟩ := hrel
        have hnl : n ≤ l.length ∧ l.length ≤ n := by have h := hn.out; omega
        by_cases hlt : j < m
        · have hjl : j < es.length := by rw [← hm.out]; exact hlt
          have hx := List.getElem?_eq_getElem hjl
          have Hd := Lib.hid (List.drop_eq_getElem_cons hjl)
          have HWe := Lib.hid (HE.out.2 _ (List.getElem_mem hjl))
          obtain ⟨bb, off, rfl, hbb, c0, c1, c2', c3', c4, c5, c6, c7, c8, c9, c10, c11⟩ := EdSl.at_ (HE.out.1.below hR.out.be) hx
          have b1 : (0 : Int) ≤ (j : Int) := Int.natCast_nonneg _
          have b2 : (j : Int) < (m : Int) := by omega
          have b0 : (0 : Int) ≤ (k : Int) := Int.natCast_nonneg _
          generalize es[j] = e at *
          have HM := fun W => Lib.hid (by have h := EdC.rmay_any e W HWe.out; unfold Ed.agg at h; exact h)
          clear hx
          go_wp2_with fail
          refine ((HM _).out).mono ?_; rintro r w5 ⟨rfl, hb5⟩
          have HB5 := Lib.hid ((box_blk wr e).ext hb5)
          have HR5 := Lib.hid ((hR.out.ext (below_a wr (.cells #[.int .u8 e.kind, .int .i64 e.n, .int .i64 e.node, .int .i64 e.part, .int .i64 e.f.node, .int .i64 e.f.part, .int .i64 e.f.depth, .int .i64 e.f.x, .int .i64 e.f.y, .int .i64 e.f.w, .int .i64 e.f.h, .string e.f.text] 69))).ext hb5)
          clear hb5 c0 c1 c2' c3' c4 c5 c6 c7 c8 c9 c10 c11 HM hbb
          obtain ⟨eb, heb⟩ : ∃ eb, Hid (wr.heap.size = eb) := ⟨_, rfl⟩
          rw [heb.out] at HB5
          rw [heb.out]
          cases hmy : mayE e with
          | false =>
            have hfin : Hid (applyE l es = ([], 210)) := by
              rw [Hid, hr.out, hrun.out, Hd.out]
              simp [runE, hmy]
            clear hmy
            go_wp2
            go_ret2
            exact RetAp.nil_ hfin.out HR5.out.be
          | true =>
            have HMy := Lib.hid hmy
            have hk5 : e.kind ≤ 5 := by
              simp only [mayE, Bool.and_eq_true, decide_eq_true_eq] at hmy
              exact hmy.1
            have hkd : e.kind = 0 ∨ e.kind = 1 ∨ e.kind = 2 ∨ e.kind = 3 ∨ e.kind = 4 ∨ e.kind = 5 := by
              have h1 := HWe.out.kind.1
              omega
            obtain ⟨z0, z1, z2, z3, z4, z5, z6, z7, z8, z9, z10, z11⟩ := box_cells HB5.out
            clear hmy
            rcases hkd with k0 | k0 | k0 | k0 | k0 | k0
            · obtain ⟨N, hN⟩ : ∃ N, Hid (nE e = N) := ⟨_, rfl⟩
              have hNle : N ≤ 2048 := by have h := nE_le HMy.out; rw [hN.out] at h; exact h
              have hnn := may_n HMy.out (by omega)
              have hnN : e.n = (N : Int) := by have h := hN.out; rw [nE_of.1 (by omega)] at h; omega
              rw [hnN] at z1
              rw [k0] at z0
              by_cases hov : l.length < k + N
              · have hfin : Hid (applyE l es = ([], 210)) := by
                  rw [Hid, hr.out, hrun.out, Hd.out]
                  simp [runE, HMy.out, stepE_none (out := out) hk5 HWe.out.kind.1 hkl (by rw [hN.out]; exact hov)]
                have q6 : (n : Int) < (k : Int) + (N : Int) := by omega
                go_wp2
                go_ret2
                exact RetAp.nil_ hfin.out HR5.out.be
              · have q6 : (k : Int) + (N : Int) ≤ (n : Int) := by omega
                generalize gk = g0 at *
                generalize wr = W0 at *
                go_wp2_with fail
                go_loopg [6, 11] N (fun gk v6 v11 wr => ∃ (i : Nat) (A4 : Option Addr) (n4 c4 : Nat), v6 = .slice A4 n4 c4 ∧ v11 = .int .i64 ((k + i : Nat) : Int) ∧ N ≤ i + gk ∧ i ≤ N ∧ Hid (RaI w wr (.slice A4 n4 c4) (outI l e k out i) ∧ Blk wr eb 69 e.cells.toArray))
                case atStart => exact ⟨0, A3, n3, c3, rfl, rfl, by omega, by omega, by rw [outI_zero]; exact HR5.out, HB5.out⟩
                case round =>
                  obtain ⟨i, A4, n4, c4, rfl, rfl, hgk3, hi, hI⟩ := hrel
                  obtain ⟨z0, z1, z2, z3, z4, z5, z6, z7, z8, z9, z10, z11⟩ := box_cells hI.out.2
                  have hebl := hI.out.2.lt
                  rw [k0] at z0
                  by_cases hiN : i < N
                  · have hkl2 : k + i < l.length := by omega
                    have hx2 := List.getElem?_eq_getElem hkl2
                    obtain ⟨vb, vo, rfl, hvb, y0, y1, y2, y3, y4, y5, y6, y7⟩ := FrSl.at_ (HA.out.below hI.out.1.be) hx2
                    have HS := Lib.hid (outI_succ (l := l) (e := e) (k := k) (i := i) (out := out) (by omega) hx2)
                    generalize l[k + i] = f at *
                    clear hx2
                    have c1 : (0 : Int) ≤ ((k + i : Nat) : Int) := Int.natCast_nonneg _
                    have c2' : ((k + i : Nat) : Int) < (n : Int) := by omega
                    have c3' : ((k + i : Nat) : Int) < (k : Int) + (N : Int) := by omega
                    have hol := outI_len l e k out i
                    have a1 : Hid ((outI l e k out i).length + [f].length ≤ maxLen) := by rw [Hid]; simp [maxLen]; omega
                    have a2 : Hid (((outI l e k out i).length + [f].length) * 72 ≤ 140737488355328) := by rw [Hid]; simp; omega
                    have HO : Hid (∀ o1 o2, OwnA ((wr.alloc o1).alloc o2) 67 8 Fr.cells (.slice A4 n4 c4) (outI l e k out i)) := fun o1 o2 => (hI.out.1.own.ext (below_a _ _)).ext (below_a _ _)
                    have HL : Hid (∀ o, Sl ((wr.alloc o).alloc (.cells #[.int .i64 f.node, .int .i64 f.part, .int .i64 f.depth, .int .i64 f.x, .int .i64 f.y, .int .i64 f.w, .int .i64 f.h, .string f.text] 67)) ((wr.alloc o).alloc (.cells #[.int .i64 f.node, .int .i64 f.part, .int .i64 f.depth, .int .i64 f.x, .int .i64 f.y, .int .i64 f.w, .int .i64 f.h, .string f.text] 67)).heap.size 8 Fr.cells (some ⟨wr.heap.size + 1, 0, none⟩) [f]) := fun o => fr_lit2 wr o f
                    have hq : Hid (chgF e f = f) := by rw [Hid]; simp [chgF, k0, geoF, txtF]
                    clear hol
                    go_wp2_with (at_builtin; refine wpList_append_a _ rfl _ _ _ rfl 67 i0 _ 8 72 Try.underlying59 hi0 hz hz1 hz2 rfl (by decide) Fr.cells_len Fr.cells_one (.slice A4 n4 c4) (outI l e k out i) (by rfl) (HO.out _ _) _ (some ⟨wr.heap.size + 1, 0, none⟩) [f] 1 1 (by rfl) rfl (HL.out _) a1.out a2.out ?_; intro v' w9 hown hchg hat; obtain ⟨A9, n9, c9, rfl, _, _, _, _⟩ := hown.form; have HP := Lib.hid (And.intro (hI.out.1.put ((below_a _ _).trans ((below_a _ _).mono (by simp))) hown hchg hat) ((fun h => hI.out.1.box ((below_a _ _).trans ((below_a _ _).mono (by simp))) h hI.out.2 (by decide)) hchg)); clear hown hchg hat)
                    go_roundg (gk - 1)
                    case measure => omega
                    case rel => exact ⟨i + 1, A9, n9, c9, rfl, by go_num, by omega, by omega, by rw [HS.out, hq.out]; exact HP.out.1, HP.out.2⟩
                  · obtain rfl : i = N := by omega
                    have q7 : ¬ ((k + i : Nat) : Int) < (k : Int) + (i : Int) := by omega
                    have q8 : ((k + i : Nat) : Int) = (k : Int) + (i : Int) := by omega
                    have hs : Hid (stepE l e k out = some (k + i, outI l e k out i)) := by
                      have h := stepE_run (l := l) (k := k) (out := out) (e := e) (by omega) (by rw [hN.out]; omega)
                      rw [hN.out] at h; exact h
                    have hrun2 : Hid (runE l es (0, []) = runE l (es.drop (j + 1)) (k + i, outI l e k out i)) := by
                      rw [Hid, hrun.out, Hd.out]; simp [runE, HMy.out, hs.out]
                    have hwf2 := Lib.hid (step_wf hs.out HWf.out HWe.out hwf.out)
                    have hol2 : (outI l e k out i).length ≤ 2049 * (j + 1) := by have h := outI_len l e k out i; omega
                    have HI := Lib.hid hI.out.1
                    clear hI q7
                    go_wp2
                    go_roundg (g0 - 1)
                    case measure => omega
                    case rel => exact ⟨j + 1, k + i, _, A4, n4, c4, rfl, by rw [← q8], by go_num, by omega, by omega, by omega, hol2, hwf2.out, HI.out, hrun2.out⟩
            · obtain ⟨N, hN⟩ : ∃ N, Hid (nE e = N) := ⟨_, rfl⟩
              have hNle : N ≤ 2048 := by have h := nE_le HMy.out; rw [hN.out] at h; exact h
              have hnn := may_n HMy.out (by omega)
              have hnN : e.n = (N : Int) := by have h := hN.out; rw [nE_of.1 (by omega)] at h; omega
              rw [hnN] at z1
              rw [k0] at z0
              by_cases hov : l.length < k + N
              · have hfin : Hid (applyE l es = ([], 210)) := by
                  rw [Hid, hr.out, hrun.out, Hd.out]
                  simp [runE, HMy.out, stepE_none (out := out) hk5 HWe.out.kind.1 hkl (by rw [hN.out]; exact hov)]
                have q6 : (n : Int) < (k : Int) + (N : Int) := by omega
                go_wp2
                go_ret2
                exact RetAp.nil_ hfin.out HR5.out.be
              · have q6 : (k : Int) + (N : Int) ≤ (n : Int) := by omega
                generalize gk = g0 at *
                generalize wr = W0 at *
                go_wp2_with fail
                go_loopg [6, 11] N (fun gk v6 v11 wr => ∃ (i : Nat) (A4 : Option Addr) (n4 c4 : Nat), v6 = .slice A4 n4 c4 ∧ v11 = .int .i64 ((k + i : Nat) : Int) ∧ N ≤ i + gk ∧ i ≤ N ∧ Hid (RaI w wr (.slice A4 n4 c4) (outI l e k out i) ∧ Blk wr eb 69 e.cells.toArray))
                case atStart => exact ⟨0, A3, n3, c3, rfl, rfl, by omega, by omega, by rw [outI_zero]; exact HR5.out, HB5.out⟩
                case round =>
                  obtain ⟨i, A4, n4, c4, rfl, rfl, hgk3, hi, hI⟩ := hrel
                  obtain ⟨z0, z1, z2, z3, z4, z5, z6, z7, z8, z9, z10, z11⟩ := box_cells hI.out.2
                  have hebl := hI.out.2.lt
                  rw [k0] at z0
                  by_cases hiN : i < N
                  · have hkl2 : k + i < l.length := by omega
                    have hx2 := List.getElem?_eq_getElem hkl2
                    obtain ⟨vb, vo, rfl, hvb, y0, y1, y2, y3, y4, y5, y6, y7⟩ := FrSl.at_ (HA.out.below hI.out.1.be) hx2
                    generalize l[k + i] = f at *
                    clear hx2
                    have c1 : (0 : Int) ≤ ((k + i : Nat) : Int) := Int.natCast_nonneg _
                    have c2' : ((k + i : Nat) : Int) < (n : Int) := by omega
                    have c3' : ((k + i : Nat) : Int) < (k : Int) + (N : Int) := by omega
                    have HS : Hid (outI l e k out (i + 1) = outI l e k out i) := by rw [Hid, outI_skip k0, outI_skip k0]
                    have HX : Hid (∀ o, RaI w (wr.alloc o) (.slice A4 n4 c4) (outI l e k out i) ∧ Blk (wr.alloc o) eb 69 e.cells.toArray) := fun o => ⟨hI.out.1.ext (below_a _ _), hI.out.2.ext (below_a _ _)⟩
                    clear hI
                    go_wp2
                    go_roundg (gk - 1)
                    case measure => omega
                    case rel => exact ⟨i + 1, A4, n4, c4, rfl, by go_num, by omega, by omega, by rw [HS.out]; exact HX.out _⟩
                  · obtain rfl : i = N := by omega
                    have q7 : ¬ ((k + i : Nat) : Int) < (k : Int) + (i : Int) := by omega
                    have q8 : ((k + i : Nat) : Int) = (k : Int) + (i : Int) := by omega
                    have hs : Hid (stepE l e k out = some (k + i, outI l e k out i)) := by
                      have h := stepE_run (l := l) (k := k) (out := out) (e := e) (by omega) (by rw [hN.out]; omega)
                      rw [hN.out] at h; exact h
                    have hrun2 : Hid (runE l es (0, []) = runE l (es.drop (j + 1)) (k + i, outI l e k out i)) := by
                      rw [Hid, hrun.out, Hd.out]; simp [runE, HMy.out, hs.out]
                    have hwf2 := Lib.hid (step_wf hs.out HWf.out HWe.out hwf.out)
                    have hol2 : (outI l e k out i).length ≤ 2049 * (j + 1) := by have h := outI_len l e k out i; omega
                    have HI := Lib.hid hI.out.1
                    clear hI q7
                    go_wp2
                    go_roundg (g0 - 1)
                    case measure => omega
                    case rel => exact ⟨j + 1, k + i, _, A4, n4, c4, rfl, by rw [← q8], by go_num, by omega, by omega, by omega, hol2, hwf2.out, HI.out, hrun2.out⟩
            · have hN0 : nE e = 0 := by unfold nE; rw [if_neg (by omega), if_neg (by omega)]
              rw [k0] at z0
              have q6 : (k : Int) ≤ (n : Int) := by omega
              generalize gk = g0 at *
              generalize wr = W0 at *
              go_wp2_with fail
              go_loopg [6, 11] 0 (fun gk v6 v11 wr => v6 = .slice A3 n3 c3 ∧ v11 = .int .i64 (k : Int) ∧ Hid (RaI w wr (.slice A3 n3 c3) out ∧ Blk wr eb 69 e.cells.toArray))
              case atStart => exact ⟨rfl, rfl, HR5.out, HB5.out⟩
              case round =>
                obtain ⟨rfl, rfl, hI⟩ := hrel
                obtain ⟨z0, z1, z2, z3, z4, z5, z6, z7, z8, z9, z10, z11⟩ := box_cells hI.out.2
                have hebl := hI.out.2.lt
                rw [k0] at z0
                have a1 : Hid (out.length + [e.f].length ≤ maxLen) := by rw [Hid]; simp [maxLen]; omega
                have a2 : Hid ((out.length + [e.f].length) * 72 ≤ 140737488355328) := by rw [Hid]; simp; omega
                have HO : Hid (∀ o1, OwnA (wr.alloc o1) 67 8 Fr.cells (.slice A3 n3 c3) out) := fun o1 => hI.out.1.own.ext (below_a _ _)
                have HL := Lib.hid (fr_lit wr e.f)
                have hs := Lib.hid (stepE_ins (l := l) (k := k) (out := out) k0)
                have hrun2 : Hid (runE l es (0, []) = runE l (es.drop (j + 1)) (k, out ++ [e.f])) := by
                  rw [Hid, hrun.out, Hd.out]; simp [runE, HMy.out, hs.out]
                have hwf2 := Lib.hid (step_wf hs.out HWf.out HWe.out hwf.out)
                have hol2 : (out ++ [e.f]).length ≤ 2049 * (j + 1) := by simp; omega
                go_wp2_with (at_builtin; refine wpList_append_a _ rfl _ _ _ rfl 67 i0 _ 8 72 Try.underlying59 hi0 hz hz1 hz2 rfl (by decide) Fr.cells_len Fr.cells_one (.slice A3 n3 c3) out (by rfl) (HO.out _) _ (some ⟨wr.heap.size, 0, none⟩) [e.f] 1 1 (by rfl) rfl HL.out a1.out a2.out ?_; intro v' w9 hown hchg hat; obtain ⟨A9, n9, c9, rfl, _, _, _, _⟩ := hown.form; have HP := Lib.hid (And.intro (hI.out.1.put (below_a _ _) hown hchg hat) (hI.out.1.box (below_a _ _) hchg hI.out.2 (by decide))); have zz := (box_cells HP.out.2).1; rw [k0] at zz; clear hown hchg hat)
                go_roundg (g0 - 1)
                case measure => omega
                case rel => exact ⟨j + 1, k, _, A9, n9, c9, rfl, rfl, by go_num, by omega, by omega, by omega, hol2, hwf2.out, HP.out.1, hrun2.out⟩
            · have hN0 : nE e = 0 := by unfold nE; rw [if_neg (by omega), if_neg (by omega)]
              rw [k0] at z0
              have q6 : (k : Int) ≤ (n : Int) := by omega
              generalize gk = g0 at *
              generalize wr = W0 at *
              go_wp2_with fail
              go_loopg [6, 11] 0 (fun gk v6 v11 wr => v6 = .slice A3 n3 c3 ∧ v11 = .int .i64 (k : Int) ∧ Hid (RaI w wr (.slice A3 n3 c3) out ∧ Blk wr eb 69 e.cells.toArray))
              case atStart => exact ⟨rfl, rfl, HR5.out, HB5.out⟩
              case round =>
                obtain ⟨rfl, rfl, hI⟩ := hrel
                obtain ⟨z0, z1, z2, z3, z4, z5, z6, z7, z8, z9, z10, z11⟩ := box_cells hI.out.2
                have hebl := hI.out.2.lt
                rw [k0] at z0
                have HFi := Lib.hid (rfind_any l A cap e.node e.part wr (HA.out.below' hI.out.1.be (Nat.le_refl _) |>.more hI.out.1.be.size) (by simp [maxLen]; omega))
                rw [← hn.out] at HFi
                by_cases hfi : findFrom e.node e.part l 0 < 0
                · have hfin : Hid (applyE l es = ([], 210)) := by
                    rw [Hid, hr.out, hrun.out, Hd.out]
                    simp [runE, HMy.out, stepE_lost (k := k) (out := out) k0 hfi]
                  rw [find_neg hfi] at HFi
                  clear hfi
                  go_wp2_with (go_at_call 78; refine (HFi.out).mono ?_; rintro r w6 ⟨rfl, rfl⟩)
                  go_ret2
                  exact RetAp.nil_ hfin.out hI.out.1.be
                · obtain ⟨i, f, h1, h2, -⟩ := find_at (nd := e.node) (p := e.part) l 0 (by omega)
                  rw [Nat.zero_add] at h1
                  have hil := (List.getElem?_eq_some_iff.1 h2).1
                  have hs := Lib.hid (stepE_move (l := l) (k := k) (out := out) k0 h1 h2)
                  rw [h1] at HFi
                  obtain ⟨vb, vo, rfl, hvb, y0, y1, y2, y3, y4, y5, y6, y7⟩ := FrSl.at_ (HA.out.below hI.out.1.be) h2
                  clear h1 h2 hfi
                  have c1 : (0 : Int) ≤ (i : Int) := Int.natCast_nonneg _
                  have c2' : (i : Int) < (n : Int) := by omega
                  have a1 : Hid (out.length + [f].length ≤ maxLen) := by rw [Hid]; simp [maxLen]; omega
                  have a2 : Hid ((out.length + [f].length) * 72 ≤ 140737488355328) := by rw [Hid]; simp; omega
                  have HO : Hid (∀ o1, OwnA (wr.alloc o1) 67 8 Fr.cells (.slice A3 n3 c3) out) := fun o1 => hI.out.1.own.ext (below_a _ _)
                  have HL := Lib.hid (fr_lit wr f)
                  have hrun2 : Hid (runE l es (0, []) = runE l (es.drop (j + 1)) (k, out ++ [f])) := by
                    rw [Hid, hrun.out, Hd.out]; simp [runE, HMy.out, hs.out]
                  have hwf2 := Lib.hid (step_wf hs.out HWf.out HWe.out hwf.out)
                  have hol2 : (out ++ [f]).length ≤ 2049 * (j + 1) := by simp; omega
                  go_wp2_with (first | (go_at_call 78; refine (HFi.out).mono ?_; rintro r w6 ⟨rfl, rfl⟩) | (at_builtin; refine wpList_append_a _ rfl _ _ _ rfl 67 i0 _ 8 72 Try.underlying59 hi0 hz hz1 hz2 rfl (by decide) Fr.cells_len Fr.cells_one (.slice A3 n3 c3) out (by rfl) (HO.out _) _ (some ⟨wr.heap.size, 0, none⟩) [f] 1 1 (by rfl) rfl HL.out a1.out a2.out ?_; intro v' w9 hown hchg hat; obtain ⟨A9, n9, c9, rfl, _, _, _, _⟩ := hown.form; have HP := Lib.hid (And.intro (hI.out.1.put (below_a _ _) hown hchg hat) (hI.out.1.box (below_a _ _) hchg hI.out.2 (by decide))); have zz := (box_cells HP.out.2).1; rw [k0] at zz; clear hown hchg hat))
                  go_roundg (g0 - 1)
                  case measure => omega
                  case rel => exact ⟨j + 1, k, _, A9, n9, c9, rfl, rfl, by go_num, by omega, by omega, by omega, hol2, hwf2.out, HP.out.1, hrun2.out⟩
            · have hN : Hid (nE e = 1) := nE_of.2 (by omega)
              rw [k0] at z0
              by_cases hov : l.length < k + 1
              · have hfin : Hid (applyE l es = ([], 210)) := by
                  rw [Hid, hr.out, hrun.out, Hd.out]
                  simp [runE, HMy.out, stepE_none (out := out) hk5 HWe.out.kind.1 hkl (by rw [hN.out]; exact hov)]
                have q6 : (n : Int) < (k : Int) + 1 := by omega
                go_wp2
                go_ret2
                exact RetAp.nil_ hfin.out HR5.out.be
              · have q6 : (k : Int) + 1 ≤ (n : Int) := by omega
                generalize gk = g0 at *
                generalize wr = W0 at *
                go_wp2_with fail
                go_loopg [6, 11] 1 (fun gk v6 v11 wr => ∃ (i : Nat) (A4 : Option Addr) (n4 c4 : Nat), v6 = .slice A4 n4 c4 ∧ v11 = .int .i64 ((k + i : Nat) : Int) ∧ 1 ≤ i + gk ∧ i ≤ 1 ∧ Hid (RaI w wr (.slice A4 n4 c4) (outI l e k out i) ∧ Blk wr eb 69 e.cells.toArray))
                case atStart => exact ⟨0, A3, n3, c3, rfl, rfl, by omega, by omega, by rw [outI_zero]; exact HR5.out, HB5.out⟩
                case round =>
                  obtain ⟨i, A4, n4, c4, rfl, rfl, hgk3, hi, hI⟩ := hrel
                  obtain ⟨z0, z1, z2, z3, z4, z5, z6, z7, z8, z9, z10, z11⟩ := box_cells hI.out.2
                  have hebl := hI.out.2.lt
                  rw [k0] at z0
                  by_cases hiN : i < 1
                  · have hkl2 : k + i < l.length := by omega
                    have hx2 := List.getElem?_eq_getElem hkl2
                    obtain ⟨vb, vo, rfl, hvb, y0, y1, y2, y3, y4, y5, y6, y7⟩ := FrSl.at_ (HA.out.below hI.out.1.be) hx2
                    have HS := Lib.hid (outI_succ (l := l) (e := e) (k := k) (i := i) (out := out) (by omega) hx2)
                    generalize l[k + i] = f at *
                    clear hx2
                    have c1 : (0 : Int) ≤ ((k + i : Nat) : Int) := Int.natCast_nonneg _
                    have c2' : ((k + i : Nat) : Int) < (n : Int) := by omega
                    have c3' : ((k + i : Nat) : Int) < (k : Int) + 1 := by omega
                    have hol := outI_len l e k out i
                    have a1 : Hid ((outI l e k out i).length + [(⟨f.node, f.part, e.f.depth, e.f.x, e.f.y, e.f.w, e.f.h, f.text⟩ : Fr)].length ≤ maxLen) := by rw [Hid]; simp [maxLen]; omega
                    have a2 : Hid (((outI l e k out i).length + [(⟨f.node, f.part, e.f.depth, e.f.x, e.f.y, e.f.w, e.f.h, f.text⟩ : Fr)].length) * 72 ≤ 140737488355328) := by rw [Hid]; simp; omega
                    have HO : Hid (∀ o1 o2, OwnA ((wr.alloc o1).alloc o2) 67 8 Fr.cells (.slice A4 n4 c4) (outI l e k out i)) := fun o1 o2 => (hI.out.1.own.ext (below_a _ _)).ext (below_a _ _)
                    have HL : Hid (∀ o, Sl ((wr.alloc o).alloc (.cells #[.int .i64 (⟨f.node, f.part, e.f.depth, e.f.x, e.f.y, e.f.w, e.f.h, f.text⟩ : Fr).node, .int .i64 (⟨f.node, f.part, e.f.depth, e.f.x, e.f.y, e.f.w, e.f.h, f.text⟩ : Fr).part, .int .i64 (⟨f.node, f.part, e.f.depth, e.f.x, e.f.y, e.f.w, e.f.h, f.text⟩ : Fr).depth, .int .i64 (⟨f.node, f.part, e.f.depth, e.f.x, e.f.y, e.f.w, e.f.h, f.text⟩ : Fr).x, .int .i64 (⟨f.node, f.part, e.f.depth, e.f.x, e.f.y, e.f.w, e.f.h, f.text⟩ : Fr).y, .int .i64 (⟨f.node, f.part, e.f.depth, e.f.x, e.f.y, e.f.w, e.f.h, f.text⟩ : Fr).w, .int .i64 (⟨f.node, f.part, e.f.depth, e.f.x, e.f.y, e.f.w, e.f.h, f.text⟩ : Fr).h, .string (⟨f.node, f.part, e.f.depth, e.f.x, e.f.y, e.f.w, e.f.h, f.text⟩ : Fr).text] 67)) ((wr.alloc o).alloc (.cells #[.int .i64 (⟨f.node, f.part, e.f.depth, e.f.x, e.f.y, e.f.w, e.f.h, f.text⟩ : Fr).node, .int .i64 (⟨f.node, f.part, e.f.depth, e.f.x, e.f.y, e.f.w, e.f.h, f.text⟩ : Fr).part, .int .i64 (⟨f.node, f.part, e.f.depth, e.f.x, e.f.y, e.f.w, e.f.h, f.text⟩ : Fr).depth, .int .i64 (⟨f.node, f.part, e.f.depth, e.f.x, e.f.y, e.f.w, e.f.h, f.text⟩ : Fr).x, .int .i64 (⟨f.node, f.part, e.f.depth, e.f.x, e.f.y, e.f.w, e.f.h, f.text⟩ : Fr).y, .int .i64 (⟨f.node, f.part, e.f.depth, e.f.x, e.f.y, e.f.w, e.f.h, f.text⟩ : Fr).w, .int .i64 (⟨f.node, f.part, e.f.depth, e.f.x, e.f.y, e.f.w, e.f.h, f.text⟩ : Fr).h, .string (⟨f.node, f.part, e.f.depth, e.f.x, e.f.y, e.f.w, e.f.h, f.text⟩ : Fr).text] 67)).heap.size 8 Fr.cells (some ⟨wr.heap.size + 1, 0, none⟩) [(⟨f.node, f.part, e.f.depth, e.f.x, e.f.y, e.f.w, e.f.h, f.text⟩ : Fr)]) := fun o => fr_lit2 wr o (⟨f.node, f.part, e.f.depth, e.f.x, e.f.y, e.f.w, e.f.h, f.text⟩ : Fr)
                    have hq : Hid (chgF e f = (⟨f.node, f.part, e.f.depth, e.f.x, e.f.y, e.f.w, e.f.h, f.text⟩ : Fr)) := by rw [Hid]; simp [chgF, k0, geoF, txtF]
                    clear hol
                    go_wp2_with (at_builtin; refine wpList_append_a _ rfl _ _ _ rfl 67 i0 _ 8 72 Try.underlying59 hi0 hz hz1 hz2 rfl (by decide) Fr.cells_len Fr.cells_one (.slice A4 n4 c4) (outI l e k out i) (by rfl) (HO.out _ _) _ (some ⟨wr.heap.size + 1, 0, none⟩) [(⟨f.node, f.part, e.f.depth, e.f.x, e.f.y, e.f.w, e.f.h, f.text⟩ : Fr)] 1 1 (by rfl) rfl (HL.out _) a1.out a2.out ?_; intro v' w9 hown hchg hat; obtain ⟨A9, n9, c9, rfl, _, _, _, _⟩ := hown.form; have HP := Lib.hid (And.intro (hI.out.1.put ((below_a _ _).trans ((below_a _ _).mono (by simp))) hown hchg hat) ((fun h => hI.out.1.box ((below_a _ _).trans ((below_a _ _).mono (by simp))) h hI.out.2 (by decide)) hchg)); clear hown hchg hat)
                    go_roundg (gk - 1)
                    case measure => omega
                    case rel => exact ⟨i + 1, A9, n9, c9, rfl, by go_num, by omega, by omega, by rw [HS.out, hq.out]; exact HP.out.1, HP.out.2⟩
                  · obtain rfl : i = 1 := by omega
                    have q7 : ¬ ((k + 1 : Nat) : Int) < (k : Int) + 1 := by omega
                    have q8 : ((k + 1 : Nat) : Int) = (k : Int) + 1 := by omega
                    have hs : Hid (stepE l e k out = some (k + 1, outI l e k out 1)) := by
                      have h := stepE_run (l := l) (k := k) (out := out) (e := e) (by omega) (by rw [hN.out]; omega)
                      rw [hN.out] at h; exact h
                    have hrun2 : Hid (runE l es (0, []) = runE l (es.drop (j + 1)) (k + 1, outI l e k out 1)) := by
                      rw [Hid, hrun.out, Hd.out]; simp [runE, HMy.out, hs.out]
                    have hwf2 := Lib.hid (step_wf hs.out HWf.out HWe.out hwf.out)
                    have hol2 : (outI l e k out 1).length ≤ 2049 * (j + 1) := by have h := outI_len l e k out 1; omega
                    have HI := Lib.hid hI.out.1
                    clear hI q7
                    go_wp2
                    go_roundg (g0 - 1)
                    case measure => omega
                    case rel => exact ⟨j + 1, k + 1, _, A4, n4, c4, rfl, by rw [← q8], by go_num, by omega, by omega, by omega, hol2, hwf2.out, HI.out, hrun2.out⟩
            · have hN : Hid (nE e = 1) := nE_of.2 (by omega)
              rw [k0] at z0
              by_cases hov : l.length < k + 1
              · have hfin : Hid (applyE l es = ([], 210)) := by
                  rw [Hid, hr.out, hrun.out, Hd.out]
                  simp [runE, HMy.out, stepE_none (out := out) hk5 HWe.out.kind.1 hkl (by rw [hN.out]; exact hov)]
                have q6 : (n : Int) < (k : Int) + 1 := by omega
                go_wp2
                go_ret2
                exact RetAp.nil_ hfin.out HR5.out.be
              · have q6 : (k : Int) + 1 ≤ (n : Int) := by omega
                generalize gk = g0 at *
                generalize wr = W0 at *
                go_wp2_with fail
                go_loopg [6, 11] 1 (fun gk v6 v11 wr => ∃ (i : Nat) (A4 : Option Addr) (n4 c4 : Nat), v6 = .slice A4 n4 c4 ∧ v11 = .int .i64 ((k + i : Nat) : Int) ∧ 1 ≤ i + gk ∧ i ≤ 1 ∧ Hid (RaI w wr (.slice A4 n4 c4) (outI l e k out i) ∧ Blk wr eb 69 e.cells.toArray))
                case atStart => exact ⟨0, A3, n3, c3, rfl, rfl, by omega, by omega, by rw [outI_zero]; exact HR5.out, HB5.out⟩
                case round =>
                  obtain ⟨i, A4, n4, c4, rfl, rfl, hgk3, hi, hI⟩ := hrel
                  obtain ⟨z0, z1, z2, z3, z4, z5, z6, z7, z8, z9, z10, z11⟩ := box_cells hI.out.2
                  have hebl := hI.out.2.lt
                  rw [k0] at z0
                  by_cases hiN : i < 1
                  · have hkl2 : k + i < l.length := by omega
                    have hx2 := List.getElem?_eq_getElem hkl2
                    obtain ⟨vb, vo, rfl, hvb, y0, y1, y2, y3, y4, y5, y6, y7⟩ := FrSl.at_ (HA.out.below hI.out.1.be) hx2
                    have HS := Lib.hid (outI_succ (l := l) (e := e) (k := k) (i := i) (out := out) (by omega) hx2)
                    generalize l[k + i] = f at *
                    clear hx2
                    have c1 : (0 : Int) ≤ ((k + i : Nat) : Int) := Int.natCast_nonneg _
                    have c2' : ((k + i : Nat) : Int) < (n : Int) := by omega
                    have c3' : ((k + i : Nat) : Int) < (k : Int) + 1 := by omega
                    have hol := outI_len l e k out i
                    have a1 : Hid ((outI l e k out i).length + [(⟨f.node, f.part, f.depth, f.x, f.y, f.w, f.h, e.f.text⟩ : Fr)].length ≤ maxLen) := by rw [Hid]; simp [maxLen]; omega
                    have a2 : Hid (((outI l e k out i).length + [(⟨f.node, f.part, f.depth, f.x, f.y, f.w, f.h, e.f.text⟩ : Fr)].length) * 72 ≤ 140737488355328) := by rw [Hid]; simp; omega
                    have HO : Hid (∀ o1 o2, OwnA ((wr.alloc o1).alloc o2) 67 8 Fr.cells (.slice A4 n4 c4) (outI l e k out i)) := fun o1 o2 => (hI.out.1.own.ext (below_a _ _)).ext (below_a _ _)
                    have HL : Hid (∀ o, Sl ((wr.alloc o).alloc (.cells #[.int .i64 (⟨f.node, f.part, f.depth, f.x, f.y, f.w, f.h, e.f.text⟩ : Fr).node, .int .i64 (⟨f.node, f.part, f.depth, f.x, f.y, f.w, f.h, e.f.text⟩ : Fr).part, .int .i64 (⟨f.node, f.part, f.depth, f.x, f.y, f.w, f.h, e.f.text⟩ : Fr).depth, .int .i64 (⟨f.node, f.part, f.depth, f.x, f.y, f.w, f.h, e.f.text⟩ : Fr).x, .int .i64 (⟨f.node, f.part, f.depth, f.x, f.y, f.w, f.h, e.f.text⟩ : Fr).y, .int .i64 (⟨f.node, f.part, f.depth, f.x, f.y, f.w, f.h, e.f.text⟩ : Fr).w, .int .i64 (⟨f.node, f.part, f.depth, f.x, f.y, f.w, f.h, e.f.text⟩ : Fr).h, .string (⟨f.node, f.part, f.depth, f.x, f.y, f.w, f.h, e.f.text⟩ : Fr).text] 67)) ((wr.alloc o).alloc (.cells #[.int .i64 (⟨f.node, f.part, f.depth, f.x, f.y, f.w, f.h, e.f.text⟩ : Fr).node, .int .i64 (⟨f.node, f.part, f.depth, f.x, f.y, f.w, f.h, e.f.text⟩ : Fr).part, .int .i64 (⟨f.node, f.part, f.depth, f.x, f.y, f.w, f.h, e.f.text⟩ : Fr).depth, .int .i64 (⟨f.node, f.part, f.depth, f.x, f.y, f.w, f.h, e.f.text⟩ : Fr).x, .int .i64 (⟨f.node, f.part, f.depth, f.x, f.y, f.w, f.h, e.f.text⟩ : Fr).y, .int .i64 (⟨f.node, f.part, f.depth, f.x, f.y, f.w, f.h, e.f.text⟩ : Fr).w, .int .i64 (⟨f.node, f.part, f.depth, f.x, f.y, f.w, f.h, e.f.text⟩ : Fr).h, .string (⟨f.node, f.part, f.depth, f.x, f.y, f.w, f.h, e.f.text⟩ : Fr).text] 67)).heap.size 8 Fr.cells (some ⟨wr.heap.size + 1, 0, none⟩) [(⟨f.node, f.part, f.depth, f.x, f.y, f.w, f.h, e.f.text⟩ : Fr)]) := fun o => fr_lit2 wr o (⟨f.node, f.part, f.depth, f.x, f.y, f.w, f.h, e.f.text⟩ : Fr)
                    have hq : Hid (chgF e f = (⟨f.node, f.part, f.depth, f.x, f.y, f.w, f.h, e.f.text⟩ : Fr)) := by rw [Hid]; simp [chgF, k0, geoF, txtF]
                    clear hol
                    go_wp2_with (at_builtin; refine wpList_append_a _ rfl _ _ _ rfl 67 i0 _ 8 72 Try.underlying59 hi0 hz hz1 hz2 rfl (by decide) Fr.cells_len Fr.cells_one (.slice A4 n4 c4) (outI l e k out i) (by rfl) (HO.out _ _) _ (some ⟨wr.heap.size + 1, 0, none⟩) [(⟨f.node, f.part, f.depth, f.x, f.y, f.w, f.h, e.f.text⟩ : Fr)] 1 1 (by rfl) rfl (HL.out _) a1.out a2.out ?_; intro v' w9 hown hchg hat; obtain ⟨A9, n9, c9, rfl, _, _, _, _⟩ := hown.form; have HP := Lib.hid (And.intro (hI.out.1.put ((below_a _ _).trans ((below_a _ _).mono (by simp))) hown hchg hat) ((fun h => hI.out.1.box ((below_a _ _).trans ((below_a _ _).mono (by simp))) h hI.out.2 (by decide)) hchg)); clear hown hchg hat)
                    go_roundg (gk - 1)
                    case measure => omega
                    case rel => exact ⟨i + 1, A9, n9, c9, rfl, by go_num, by omega, by omega, by rw [HS.out, hq.out]; exact HP.out.1, HP.out.2⟩
                  · obtain rfl : i = 1 := by omega
                    have q7 : ¬ ((k + 1 : Nat) : Int) < (k : Int) + 1 := by omega
                    have q8 : ((k + 1 : Nat) : Int) = (k : Int) + 1 := by omega
                    have hs : Hid (stepE l e k out = some (k + 1, outI l e k out 1)) := by
                      have h := stepE_run (l := l) (k := k) (out := out) (e := e) (by omega) (by rw [hN.out]; omega)
                      rw [hN.out] at h; exact h
                    have hrun2 : Hid (runE l es (0, []) = runE l (es.drop (j + 1)) (k + 1, outI l e k out 1)) := by
                      rw [Hid, hrun.out, Hd.out]; simp [runE, HMy.out, hs.out]
                    have hwf2 := Lib.hid (step_wf hs.out HWf.out HWe.out hwf.out)
                    have hol2 : (outI l e k out 1).length ≤ 2049 * (j + 1) := by have h := outI_len l e k out 1; omega
                    have HI := Lib.hid hI.out.1
                    clear hI q7
                    go_wp2
                    go_roundg (g0 - 1)
                    case measure => omega
                    case rel => exact ⟨j + 1, k + 1, _, A4, n4, c4, rfl, by rw [← q8], by go_num, by omega, by omega, by omega, hol2, hwf2.out, HI.out, hrun2.out⟩
        · have b2 : ¬ (j : Int) < (m : Int) := by omega
          have hfin : Hid (applyE l es = if k < l.length ∨ chk out ≠ 0 then ([], 210) else (out, 0)) := by
            rw [Hid, hr.out, hrun.out, List.drop_of_length_le (by rw [← hm.out]; omega)]; rfl
          have HR5 := Lib.hid hR.out
          have hn3 := Lib.hid hR.out.own.len
          clear hR hrun
          by_cases t3 : k < n
          · have q3 : (k : Int) < (n : Int) := by omega
            have HR : Hid (applyE l es = ([], 210)) := by rw [Hid, hfin.out, if_pos (.inl (by omega))]
            clear hlt hj hgk hkl hnl
            go_wp2
            go_ret2
            exact RetAp.nil_ HR.out HR5.out.be
          · have q3 : ¬ (k : Int) < (n : Int) := by omega
            have q4 : decide (k < n) = false := decide_eq_false t3
            have HCk := Lib.hid (RTree.rcheck_any out A3 n3 c3 wr (HR5.out.own.sl Fr.cells_len) hwf.out hn3.out (by rw [hn3.out]; simp [maxLen]; omega))
            have Ht3 : Hid (¬ k < l.length) := by rw [Hid]; omega
            clear t3 hlt hj hgk hkl hnl
            by_cases t4 : chk out = 0
            · have HR : Hid (applyE l es = (out, 0)) := by rw [Hid, hfin.out, if_neg (by have := Ht3.out; omega)]
              rw [t4] at HCk
              clear t4
              go_wp2_with fail
              refine (HCk.out).mono ?_; rintro r w5 ⟨rfl, hb5⟩
              have H5 := Lib.hid (HR5.out.ext hb5)
              clear hb5
              go_wp2
              go_ret2
              rw [HR.out]
              exact ⟨A3, n3, c3, rfl, H5.out.own, H5.out.vf, H5.out.be⟩
            · have HR : Hid (applyE l es = ([], 210)) := by rw [Hid, hfin.out, if_pos (.inr t4)]
              have q5 : (chk out != 0) = true := by simpa using t4
              clear t4
              go_wp2_with fail
              refine (HCk.out).mono ?_; rintro r w5 ⟨rfl, hb5⟩
              have HBe := Lib.hid (HR5.out.ext hb5).be
              clear hb5
              go_wp2
              go_ret2
              exact RetAp.nil_ HR.out HBe.out
    · have hr : Hid (applyE l es = ([], 200)) := by rw [Hid, applyE, if_neg (by rw [← hm.out]; omega), if_pos t2]
      have q2 : (chk l != 0) = true := by simpa using t2
      clear t2
      go_enter Try.func44, Try.ntmps44
      go_wp2_with fail
      refine (HC.out).mono ?_; rintro r w1 ⟨rfl, hb1⟩
      have HB1 := Lib.hid hb1
      clear hb1
      go_wp2
      go_ret2
      exact RetAp.nil_ hr.out HB1.out
end Go.Proofs.Ytiljpbncfofnhaa.EdF
