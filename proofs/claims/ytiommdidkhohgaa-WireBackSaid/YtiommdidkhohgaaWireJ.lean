/- wire: the document's take of bytes. -/
import Derived.Test.YtiommdidkhohgaaWireI
import Derived.Outline
import Derived.BigQuiet
import Derived.Deep.QuietTactic
import Derived.Deep.RegionWith
import Derived.Deep.RegionHeld3
import Derived.Deep.DrawnRows
import Derived.Deep.LoopGhost
import Derived.Deep.DeepCutAuto
import Derived.Laws.EntriesVeiled
namespace Go.Proofs.Ytiommdidkhohgaa.Wire
open Go.RowKit Go.ChangeShapes Go.WideShapes Go.ChangeAt
set_option linter.unusedVariables false
set_option linter.unusedSimpArgs false
attribute [local go_sem ↓] Go.wp_at_zero Go.wp_at_succ
open Go.Shelf Go.Proofs.Ytiommdidkhohgaa.Word

set_option maxHeartbeats 2000000 in
theorem rbytes_any (l : List UInt8) (A : Option Addr) (n cap : Nat) (w : World) (hl : BySl w w.heap.size A l) (hn : Hid (n = l.length)) (hc : n ≤ cap) (hm : n ≤ 1000000000000) :
    Calls Try.prog 42 #[.int .u8 98, .slice A n cap] w (RetRk w (takeK .bytes l)) := by
  have HZ := Lib.hid (two_boxes w)
  have HL := Lib.hid (hl.ext HZ.out.2.2)
  have hg0 : getAt l 0 = getW l := getAt_zero l
  cases hg : getW l with
  | none =>
    have ht : Hid (takeK .bytes l = none) := by unfold Hid takeK; rw [hg]
    have e0 : getV (getAt l 0) = .tuple #[.int .u64 0, .int .i64 0, .bool false] := by rw [hg0, hg]; rfl
    clear hg0 hg hl
    go_enter Try.func42, Try.ntmps42
    go_wp2_with (go_at_call 61; refine (rget_any l A n cap 0 _ HL.out hn hc hm).mono ?_; rintro e w1 ⟨rfl, hb⟩; rw [e0]; have HB : Hid (Blk w1 w.heap.size 34 zV ∧ Blk w1 (w.heap.size + 1) 34 zV ∧ Below w.heap.size w w1) := ⟨HZ.out.1.ext hb, HZ.out.2.1.ext hb, ext_under HZ.out.2.2 (Nat.le_refl _) hb⟩; clear hb; have c0 : w1.cell? ⟨w.heap.size, 0, none⟩ = some (.int .u64 0) := HB.out.1.cell 0; have c1 : w1.cell? ⟨w.heap.size, 1, none⟩ = some (.int .i64 0) := HB.out.1.cell 1; have c2 : w1.cell? ⟨w.heap.size, 2, none⟩ = some (.bool false) := HB.out.1.cell 2; have c3 : w1.cell? ⟨w.heap.size, 3, none⟩ = some (.slice none 0 0) := HB.out.1.cell 3; have c4 : w1.cell? ⟨w.heap.size, 4, none⟩ = some (.slice none 0 0) := HB.out.1.cell 4; have f0 := HB.out.1.free 0; have f1 := HB.out.1.free 1; have f2 := HB.out.1.free 2; have f3 := HB.out.1.free 3; have f4 := HB.out.1.free 4; have bx0 : w1.cell? ⟨w.heap.size + 1, 0, none⟩ = some (.int .u64 0) := HB.out.2.1.cell 0; have bx1 : w1.cell? ⟨w.heap.size + 1, 1, none⟩ = some (.int .i64 0) := HB.out.2.1.cell 1; have bx2 : w1.cell? ⟨w.heap.size + 1, 2, none⟩ = some (.bool false) := HB.out.2.1.cell 2; have bx3 : w1.cell? ⟨w.heap.size + 1, 3, none⟩ = some (.slice none 0 0) := HB.out.2.1.cell 3; have bx4 : w1.cell? ⟨w.heap.size + 1, 4, none⟩ = some (.slice none 0 0) := HB.out.2.1.cell 4; have bf0 := HB.out.2.1.free 0; have bf1 := HB.out.2.1.free 1; have bf2 := HB.out.2.1.free 2; have bf3 := HB.out.2.1.free 3; have bf4 := HB.out.2.1.free 4)
    have hF := blk_five (HB.out.1) (.int .u64 0) (.int .i64 0) (.bool false) (.slice none 0 0) (.slice none 0 0); have q0 := hF.cell 0; have q1 := hF.cell 1; have q2 := hF.cell 2; have q3 := hF.cell 3; have q4 := hF.cell 4; clear hF
    refine bodyPost_ret (v := .tuple #[wr0.agg, .int .i64 0]) ?_ rfl ⟨below_five HB.out.2.2 (Nat.le_refl _) _ _ _ _ _, by rw [ht.out]⟩
    simp [results, Try.results42, go_sem, q0, q1, q2, q3, q4, wr0_agg]
  | some x =>
    obtain ⟨v, u⟩ := x
    have e0 : getV (getAt l 0) = .tuple #[.int .u64 (v : Int), .int .i64 (u : Int), .bool true] := by rw [hg0, hg]; rfl
    have hs := get_some hg
    have hv := hs.1
    have hu := hs.2.2.2.1
    obtain ⟨ab, ao, rfl⟩ := Sl.some_of hl (getW_ne hg)
    by_cases hbig : v ≤ 262144
    · have d1 : decide ((262144 : Int) < (v : Int)) = false := decide_eq_false (by omega)
      have e1 : IntKind.i64.wrap (v : Int) = (v : Int) := IntWalk.i64_in _ (by omega)
      have e3 : IntKind.i64.wrap ((u : Int) + (v : Int)) = ((u + v : Nat) : Int) := by rw [IntWalk.i64_in _ (by have := hs.2.2.2.2.2; omega)]; omega
      by_cases hfit : v ≤ n - u
      · have ht : Hid (takeK .bytes l = some ({ wv0 with b := (l.drop u).take v }, u + v)) := by unfold Hid takeK; rw [hg]; simp only; rw [if_pos ⟨hbig, by rw [← hn.out]; exact hfit⟩]
        have hun0 : u + v ≤ n := by have := hn.out; omega
        have hun : u + v ≤ n := by have := hn.out; omega
        obtain ⟨t, htt⟩ : ∃ t, t = u + v := ⟨_, rfl⟩
        have d2 : decide (n < t) = false := decide_eq_false (by omega)
        have hlh : ∀ W, (Instr.slice 22 (.slice (some ⟨ab, ao, none⟩) n cap) (some (.int .i64 (u : Int))) (some (.int .i64 (t : Int))) none).run Try.prog W = .ok (.slice (cutA (some ⟨ab, ao, none⟩) cap u 1) v (cap - u)) W := fun W => by
          have := run_slice_lohi (c := 1) Try.underlying22 (Option.isSome_iff_exists.1 (by kernel_rfl)) (by kernel_rfl) (some ⟨ab, ao, none⟩) n cap (u : Int) (t : Int) (by omega) (by omega) (by omega) W
          have h5 : (t : Int).toNat - (u : Int).toNat = v := by omega
          rw [h5, Int.toNat_natCast] at this
          exact this
        have hT : Hid (Sl w w.heap.size 1 encB (cutA (some ⟨ab, ao, none⟩) cap u 1) ((l.drop u).take v) ∧ v = ((l.drop u).take v).length) := by
          refine ⟨(Sl.cut hl cap u (by rw [← hn.out]; exact hc)).take v, ?_⟩
          rw [List.length_take, List.length_drop, ← hn.out]; omega
        obtain ⟨ca, hca⟩ := cutA_some ⟨ab, ao, none⟩ cap u 1
        rw [hca] at hlh hT
        have hle : v ≤ cap - u := by omega
        have hclone : ∀ W, Hid (Below w.heap.size w W) → Calls Try.prog 15 #[.slice (some ca) v (cap - u)] W (RetA W 5 1 encB ((l.drop u).take v)) := fun W hW => by
          refine (Bytes.copy_any ((l.drop u).take v) (some ca) v (cap - u) W (hT.out.1.ext hW.out) (by rw [← hT.out.2]; omega) hT.out.2).mono ?_
          rintro e w' ⟨v', rfl, hown, hb⟩
          exact ⟨v', rfl, OwnA.of_own hown, fun k hk => (hown.lt hk).1, hb⟩
        rw [← htt] at e3 ht
        have hlt2 : Hid (((l.drop u).take v).length ≤ 1000000) := by rw [Hid, ← hT.out.2]; omega
        have HCC := Lib.hid hc
        clear hg0 hg hl hs htt hT hc hle hun hun0 hu
        go_enter Try.func42, Try.ntmps42
        go_wp2_with (first | (go_at_call 61; refine (rget_any l (some ⟨ab, ao, none⟩) n cap 0 _ HL.out hn HCC.out hm).mono ?_; rintro e w1 ⟨rfl, hb⟩; rw [e0]; have HB : Hid (Blk w1 w.heap.size 34 zV ∧ Blk w1 (w.heap.size + 1) 34 zV ∧ Below w.heap.size w w1) := ⟨HZ.out.1.ext hb, HZ.out.2.1.ext hb, ext_under HZ.out.2.2 (Nat.le_refl _) hb⟩; clear hb; have c0 : w1.cell? ⟨w.heap.size, 0, none⟩ = some (.int .u64 0) := HB.out.1.cell 0; have c1 : w1.cell? ⟨w.heap.size, 1, none⟩ = some (.int .i64 0) := HB.out.1.cell 1; have c2 : w1.cell? ⟨w.heap.size, 2, none⟩ = some (.bool false) := HB.out.1.cell 2; have c3 : w1.cell? ⟨w.heap.size, 3, none⟩ = some (.slice none 0 0) := HB.out.1.cell 3; have c4 : w1.cell? ⟨w.heap.size, 4, none⟩ = some (.slice none 0 0) := HB.out.1.cell 4; have f0 := HB.out.1.free 0; have f1 := HB.out.1.free 1; have f2 := HB.out.1.free 2; have f3 := HB.out.1.free 3; have f4 := HB.out.1.free 4; have bx0 : w1.cell? ⟨w.heap.size + 1, 0, none⟩ = some (.int .u64 0) := HB.out.2.1.cell 0; have bx1 : w1.cell? ⟨w.heap.size + 1, 1, none⟩ = some (.int .i64 0) := HB.out.2.1.cell 1; have bx2 : w1.cell? ⟨w.heap.size + 1, 2, none⟩ = some (.bool false) := HB.out.2.1.cell 2; have bx3 : w1.cell? ⟨w.heap.size + 1, 3, none⟩ = some (.slice none 0 0) := HB.out.2.1.cell 3; have bx4 : w1.cell? ⟨w.heap.size + 1, 4, none⟩ = some (.slice none 0 0) := HB.out.2.1.cell 4; have bf0 := HB.out.2.1.free 0; have bf1 := HB.out.2.1.free 1; have bf2 := HB.out.2.1.free 2; have bf3 := HB.out.2.1.free 3; have bf4 := HB.out.2.1.free 4) | (go_at_call 15; refine (hclone _ (Lib.hid HB.out.2.2)).mono ?_; rintro e w2 ⟨v2, rfl, hown2, hfr2, hb2⟩; obtain ⟨A2, n2, c2', rfl, hn2, hle2, hmx2, hnil2⟩ := hown2.form; have HC : Hid (Blk w2 w.heap.size 34 zV ∧ Blk w2 (w.heap.size + 1) 34 zV ∧ Below w.heap.size w w2) := ⟨HB.out.1.ext hb2, HB.out.2.1.ext hb2, ext_under HB.out.2.2 (Nat.le_refl _) hb2⟩; have HO := Lib.hid (And.intro hown2 (And.intro hfr2 HB.out.2.1.lt)); clear hown2 hfr2 hb2; have k0 : w2.cell? ⟨w.heap.size, 0, none⟩ = some (.int .u64 0) := HC.out.1.cell 0; have k1 : w2.cell? ⟨w.heap.size, 1, none⟩ = some (.int .i64 0) := HC.out.1.cell 1; have k2 : w2.cell? ⟨w.heap.size, 2, none⟩ = some (.bool false) := HC.out.1.cell 2; have k3 : w2.cell? ⟨w.heap.size, 3, none⟩ = some (.slice none 0 0) := HC.out.1.cell 3; have k4 : w2.cell? ⟨w.heap.size, 4, none⟩ = some (.slice none 0 0) := HC.out.1.cell 4; have g0 := HC.out.1.free 0; have g1 := HC.out.1.free 1; have g2 := HC.out.1.free 2; have g3 := HC.out.1.free 3; have g4 := HC.out.1.free 4; have m0 : w2.cell? ⟨w.heap.size + 1, 0, none⟩ = some (.int .u64 0) := HC.out.2.1.cell 0; have m1 : w2.cell? ⟨w.heap.size + 1, 1, none⟩ = some (.int .i64 0) := HC.out.2.1.cell 1; have m2 : w2.cell? ⟨w.heap.size + 1, 2, none⟩ = some (.bool false) := HC.out.2.1.cell 2; have m3 : w2.cell? ⟨w.heap.size + 1, 3, none⟩ = some (.slice none 0 0) := HC.out.2.1.cell 3; have m4 : w2.cell? ⟨w.heap.size + 1, 4, none⟩ = some (.slice none 0 0) := HC.out.2.1.cell 4; have o0 := HC.out.2.1.free 0; have o1 := HC.out.2.1.free 1; have o2 := HC.out.2.1.free 2; have o3 := HC.out.2.1.free 3; have o4 := HC.out.2.1.free 4))
        have HOK : Hid (Wr.Ok (((((((w2.setCell ⟨w.heap.size + 1, 3, none⟩ (.slice A2 n2 c2')).setCell ⟨w.heap.size, 0, none⟩ (.int .u64 0)).setCell ⟨w.heap.size, 1, none⟩ (.int .i64 0)).setCell ⟨w.heap.size, 2, none⟩ (.bool false)).setCell ⟨w.heap.size, 3, none⟩ (.slice A2 n2 c2')).setCell ⟨w.heap.size, 4, none⟩ (.slice none 0 0))) ⟨{ wv0 with b := (l.drop u).take v }, A2, n2, c2', none, 0, 0⟩) := by
          refine ⟨HO.out.1.chg (chg_five ((Chg.refl (fun k => k = w.heap.size ∨ k = w.heap.size + 1) w2).setCell (p := ⟨w.heap.size + 1, 3, none⟩) (fun _ => .inr rfl) _) (.inl rfl) _ _ _ _ _) (fun k hk h => ?_), OwnA.nil_ _ _ _ _, wv0_wf.1, wv0_wf.2.1, wv0_wf.2.2.1, wv0_wf.2.2.2.1, hlt2.out, wv0_wf.2.2.2.2.2⟩
          have := HO.out.2.1 k hk
          have := HO.out.2.2
          omega
        have hF := blk_five (HC.out.1.far (p := ⟨w.heap.size + 1, 3, none⟩) (by simp) (.slice A2 n2 c2')) (.int .u64 0) (.int .i64 0) (.bool false) (.slice A2 n2 c2') (.slice none 0 0); have q0 := hF.cell 0; have q1 := hF.cell 1; have q2 := hF.cell 2; have q3 := hF.cell 3; have q4 := hF.cell 4; clear hF
        refine bodyPost_ret (v := .tuple #[(⟨{ wv0 with b := (l.drop u).take v }, A2, n2, c2', none, 0, 0⟩ : Wr).agg, .int .i64 (t : Int)]) ?_ rfl ⟨below_five (HC.out.2.2.setCell (p := ⟨w.heap.size + 1, 3, none⟩) (Nat.le_succ _) _) (Nat.le_refl _) _ _ _ _ _, by
          rw [ht.out]
          refine ⟨⟨{ wv0 with b := (l.drop u).take v }, A2, n2, c2', none, 0, 0⟩, rfl, rfl, HOK.out, fun k hk => ?_, fun k hk => by simp [blockOf] at hk⟩
          have := HO.out.2.1 k (by revert hk; cases A2 <;> simp [Value.ownBlock, blockOf])
          have := HO.out.2.2
          omega⟩
        simp [results, Try.results42, go_sem, q0, q1, q2, q3, q4, Wr.agg, wv0]
      · have ht : Hid (takeK .bytes l = none) := by unfold Hid takeK; rw [hg]; simp only; rw [if_neg (fun h => hfit (by rw [hn.out]; exact h.2))]
        obtain ⟨t, htt⟩ : ∃ t, t = u + v := ⟨_, rfl⟩
        rw [← htt] at e3
        have d2 : decide (n < t) = true := decide_eq_true (by have := hn.out; omega)
        clear htt
        clear hg0 hg hl hs
        go_enter Try.func42, Try.ntmps42
        go_wp2_with (go_at_call 61; refine (rget_any l (some ⟨ab, ao, none⟩) n cap 0 _ HL.out hn hc hm).mono ?_; rintro e w1 ⟨rfl, hb⟩; rw [e0]; have HB : Hid (Blk w1 w.heap.size 34 zV ∧ Blk w1 (w.heap.size + 1) 34 zV ∧ Below w.heap.size w w1) := ⟨HZ.out.1.ext hb, HZ.out.2.1.ext hb, ext_under HZ.out.2.2 (Nat.le_refl _) hb⟩; clear hb; have c0 : w1.cell? ⟨w.heap.size, 0, none⟩ = some (.int .u64 0) := HB.out.1.cell 0; have c1 : w1.cell? ⟨w.heap.size, 1, none⟩ = some (.int .i64 0) := HB.out.1.cell 1; have c2 : w1.cell? ⟨w.heap.size, 2, none⟩ = some (.bool false) := HB.out.1.cell 2; have c3 : w1.cell? ⟨w.heap.size, 3, none⟩ = some (.slice none 0 0) := HB.out.1.cell 3; have c4 : w1.cell? ⟨w.heap.size, 4, none⟩ = some (.slice none 0 0) := HB.out.1.cell 4; have f0 := HB.out.1.free 0; have f1 := HB.out.1.free 1; have f2 := HB.out.1.free 2; have f3 := HB.out.1.free 3; have f4 := HB.out.1.free 4; have bx0 : w1.cell? ⟨w.heap.size + 1, 0, none⟩ = some (.int .u64 0) := HB.out.2.1.cell 0; have bx1 : w1.cell? ⟨w.heap.size + 1, 1, none⟩ = some (.int .i64 0) := HB.out.2.1.cell 1; have bx2 : w1.cell? ⟨w.heap.size + 1, 2, none⟩ = some (.bool false) := HB.out.2.1.cell 2; have bx3 : w1.cell? ⟨w.heap.size + 1, 3, none⟩ = some (.slice none 0 0) := HB.out.2.1.cell 3; have bx4 : w1.cell? ⟨w.heap.size + 1, 4, none⟩ = some (.slice none 0 0) := HB.out.2.1.cell 4; have bf0 := HB.out.2.1.free 0; have bf1 := HB.out.2.1.free 1; have bf2 := HB.out.2.1.free 2; have bf3 := HB.out.2.1.free 3; have bf4 := HB.out.2.1.free 4)
        have hF := blk_five (HB.out.1) (.int .u64 0) (.int .i64 0) (.bool false) (.slice none 0 0) (.slice none 0 0); have q0 := hF.cell 0; have q1 := hF.cell 1; have q2 := hF.cell 2; have q3 := hF.cell 3; have q4 := hF.cell 4; clear hF
        refine bodyPost_ret (v := .tuple #[wr0.agg, .int .i64 0]) ?_ rfl ⟨below_five HB.out.2.2 (Nat.le_refl _) _ _ _ _ _, by rw [ht.out]⟩
        simp [results, Try.results42, go_sem, q0, q1, q2, q3, q4, wr0_agg]
    · have ht : Hid (takeK .bytes l = none) := by unfold Hid takeK; rw [hg]; simp only; rw [if_neg (fun h => hbig h.1)]
      have d1 : decide ((262144 : Int) < (v : Int)) = true := decide_eq_true (by omega)
      clear hg0 hg hl hs
      go_enter Try.func42, Try.ntmps42
      go_wp2_with (go_at_call 61; refine (rget_any l (some ⟨ab, ao, none⟩) n cap 0 _ HL.out hn hc hm).mono ?_; rintro e w1 ⟨rfl, hb⟩; rw [e0]; have HB : Hid (Blk w1 w.heap.size 34 zV ∧ Blk w1 (w.heap.size + 1) 34 zV ∧ Below w.heap.size w w1) := ⟨HZ.out.1.ext hb, HZ.out.2.1.ext hb, ext_under HZ.out.2.2 (Nat.le_refl _) hb⟩; clear hb; have c0 : w1.cell? ⟨w.heap.size, 0, none⟩ = some (.int .u64 0) := HB.out.1.cell 0; have c1 : w1.cell? ⟨w.heap.size, 1, none⟩ = some (.int .i64 0) := HB.out.1.cell 1; have c2 : w1.cell? ⟨w.heap.size, 2, none⟩ = some (.bool false) := HB.out.1.cell 2; have c3 : w1.cell? ⟨w.heap.size, 3, none⟩ = some (.slice none 0 0) := HB.out.1.cell 3; have c4 : w1.cell? ⟨w.heap.size, 4, none⟩ = some (.slice none 0 0) := HB.out.1.cell 4; have f0 := HB.out.1.free 0; have f1 := HB.out.1.free 1; have f2 := HB.out.1.free 2; have f3 := HB.out.1.free 3; have f4 := HB.out.1.free 4; have bx0 : w1.cell? ⟨w.heap.size + 1, 0, none⟩ = some (.int .u64 0) := HB.out.2.1.cell 0; have bx1 : w1.cell? ⟨w.heap.size + 1, 1, none⟩ = some (.int .i64 0) := HB.out.2.1.cell 1; have bx2 : w1.cell? ⟨w.heap.size + 1, 2, none⟩ = some (.bool false) := HB.out.2.1.cell 2; have bx3 : w1.cell? ⟨w.heap.size + 1, 3, none⟩ = some (.slice none 0 0) := HB.out.2.1.cell 3; have bx4 : w1.cell? ⟨w.heap.size + 1, 4, none⟩ = some (.slice none 0 0) := HB.out.2.1.cell 4; have bf0 := HB.out.2.1.free 0; have bf1 := HB.out.2.1.free 1; have bf2 := HB.out.2.1.free 2; have bf3 := HB.out.2.1.free 3; have bf4 := HB.out.2.1.free 4)
      have hF := blk_five (HB.out.1) (.int .u64 0) (.int .i64 0) (.bool false) (.slice none 0 0) (.slice none 0 0); have q0 := hF.cell 0; have q1 := hF.cell 1; have q2 := hF.cell 2; have q3 := hF.cell 3; have q4 := hF.cell 4; clear hF
      refine bodyPost_ret (v := .tuple #[wr0.agg, .int .i64 0]) ?_ rfl ⟨below_five HB.out.2.2 (Nat.le_refl _) _ _ _ _ _, by rw [ht.out]⟩
      simp [results, Try.results42, go_sem, q0, q1, q2, q3, q4, wr0_agg]
end Go.Proofs.Ytiommdidkhohgaa.Wire
