/- wire: the document's take of bytes.
wire: the document's take of rows; its take, whole.
wire: the document's Schema and take by a letter.
wire: the document's Take.
wire: Whole of both; the document's same. -/
import Derived.Test.YtoneechcclndaaaWe
import Derived.Outline
import Derived.BigQuiet
import Derived.Deep.QuietTactic
import Derived.Deep.RegionWith
import Derived.Deep.RegionHeld3
import Derived.Deep.DrawnRows
import Derived.Deep.LoopGhost
import Derived.Deep.DeepCutAuto
import Derived.Laws.EntriesVeiled
namespace Go.Proofs.Ytoneechcclndaaa.Wire
open Go.RowKit Go.ChangeShapes Go.WideShapes Go.ChangeAt
set_option linter.unusedVariables false
set_option linter.unusedSimpArgs false
attribute [local go_sem ↓] Go.wp_at_zero Go.wp_at_succ
open Go.Shelf Go.Proofs.Ytoneechcclndaaa.Word

set_option maxHeartbeats 2000000 in
theorem rbytes_any (l : List UInt8) (A : Option Addr) (n cap : Nat) (w : World) (hl : BySl w w.heap.size A l) (hn : Hid (n = l.length)) (hc : n ≤ cap) (hm : n ≤ 1000000000000) :
    Calls Try.prog 93 #[.int .u8 98, .slice A n cap] w (RetRk w (takeK .bytes l)) := by
  have HZ := Lib.hid (two_boxes w)
  have HL := Lib.hid (hl.ext HZ.out.2.2)
  have hg0 : getAt l 0 = getW l := getAt_zero l
  cases hg : getW l with
  | none =>
    have ht : Hid (takeK .bytes l = none) := by unfold Hid takeK; rw [hg]
    have e0 : getV (getAt l 0) = .tuple #[.int .u64 0, .int .i64 0, .bool false] := by rw [hg0, hg]; rfl
    clear hg0 hg hl
    go_enter Try.func93, Try.ntmps93
    go_wp2_with (go_at_call 110; refine (rget_any l A n cap 0 _ HL.out hn hc hm).mono ?_; rintro e w1 ⟨rfl, hb⟩; rw [e0]; have HB : Hid (Blk w1 w.heap.size 38 zV ∧ Blk w1 (w.heap.size + 1) 38 zV ∧ Below w.heap.size w w1) := ⟨HZ.out.1.ext hb, HZ.out.2.1.ext hb, ext_under HZ.out.2.2 (Nat.le_refl _) hb⟩; clear hb; have c0 : w1.cell? ⟨w.heap.size, 0, none⟩ = some (.int .u64 0) := HB.out.1.cell 0; have c1 : w1.cell? ⟨w.heap.size, 1, none⟩ = some (.int .i64 0) := HB.out.1.cell 1; have c2 : w1.cell? ⟨w.heap.size, 2, none⟩ = some (.bool false) := HB.out.1.cell 2; have c3 : w1.cell? ⟨w.heap.size, 3, none⟩ = some (.slice none 0 0) := HB.out.1.cell 3; have c4 : w1.cell? ⟨w.heap.size, 4, none⟩ = some (.slice none 0 0) := HB.out.1.cell 4; have f0 := HB.out.1.free 0; have f1 := HB.out.1.free 1; have f2 := HB.out.1.free 2; have f3 := HB.out.1.free 3; have f4 := HB.out.1.free 4; have bx0 : w1.cell? ⟨w.heap.size + 1, 0, none⟩ = some (.int .u64 0) := HB.out.2.1.cell 0; have bx1 : w1.cell? ⟨w.heap.size + 1, 1, none⟩ = some (.int .i64 0) := HB.out.2.1.cell 1; have bx2 : w1.cell? ⟨w.heap.size + 1, 2, none⟩ = some (.bool false) := HB.out.2.1.cell 2; have bx3 : w1.cell? ⟨w.heap.size + 1, 3, none⟩ = some (.slice none 0 0) := HB.out.2.1.cell 3; have bx4 : w1.cell? ⟨w.heap.size + 1, 4, none⟩ = some (.slice none 0 0) := HB.out.2.1.cell 4; have bf0 := HB.out.2.1.free 0; have bf1 := HB.out.2.1.free 1; have bf2 := HB.out.2.1.free 2; have bf3 := HB.out.2.1.free 3; have bf4 := HB.out.2.1.free 4)
    have hF := blk_five (HB.out.1) (.int .u64 0) (.int .i64 0) (.bool false) (.slice none 0 0) (.slice none 0 0); have q0 := hF.cell 0; have q1 := hF.cell 1; have q2 := hF.cell 2; have q3 := hF.cell 3; have q4 := hF.cell 4; clear hF
    refine bodyPost_ret (v := .tuple #[wr0.agg, .int .i64 0]) ?_ rfl ⟨below_five HB.out.2.2 (Nat.le_refl _) _ _ _ _ _, by rw [ht.out]⟩
    simp [results, Try.results93, go_sem, q0, q1, q2, q3, q4, wr0_agg]
  | some x =>
    obtain ⟨v, u⟩ := x
    have e0 : getV (getAt l 0) = .tuple #[.int .u64 (v : Int), .int .i64 (u : Int), .bool true] := by rw [hg0, hg]; rfl
    have hs := get_some hg
    have hv := hs.1
    have hu := hs.2.2.2.1
    obtain ⟨ab, ao, rfl⟩ := Sl.some_of hl (getW_ne hg)
    by_cases hbig : v ≤ 262144
    · have d1 : decide ((262144 : Int) < (v : Int)) = false := decide_eq_false (by omega)
      have e1 : IntKind.i64.wrap (v : Int) = (v : Int) := IntWalk.i64_in _ (by omega)
      have e3 : IntKind.i64.wrap ((u : Int) + (v : Int)) = ((u + v : Nat) : Int) := by rw [IntWalk.i64_in _ (by have := hs.2.2.2.2.2; omega)]; omega
      by_cases hfit : v ≤ n - u
      · have ht : Hid (takeK .bytes l = some ({ wv0 with b := (l.drop u).take v }, u + v)) := by unfold Hid takeK; rw [hg]; simp only; rw [if_pos ⟨hbig, by rw [← hn.out]; exact hfit⟩]
        have hun0 : u + v ≤ n := by have := hn.out; omega
        have hun : u + v ≤ n := by have := hn.out; omega
        obtain ⟨t, htt⟩ : ∃ t, t = u + v := ⟨_, rfl⟩
        have d2 : decide (n < t) = false := decide_eq_false (by omega)
        have hlh : ∀ W, (Instr.slice 25 (.slice (some ⟨ab, ao, none⟩) n cap) (some (.int .i64 (u : Int))) (some (.int .i64 (t : Int))) none).run Try.prog W = .ok (.slice (cutA (some ⟨ab, ao, none⟩) cap u 1) v (cap - u)) W := fun W => by
          have := run_slice_lohi (c := 1) Try.underlying25 (Option.isSome_iff_exists.1 (by kernel_rfl)) (by kernel_rfl) (some ⟨ab, ao, none⟩) n cap (u : Int) (t : Int) (by omega) (by omega) (by omega) W
          have h5 : (t : Int).toNat - (u : Int).toNat = v := by omega
          rw [h5, Int.toNat_natCast] at this
          exact this
        have hT : Hid (Sl w w.heap.size 1 encB (cutA (some ⟨ab, ao, none⟩) cap u 1) ((l.drop u).take v) ∧ v = ((l.drop u).take v).length) := by
          refine ⟨(Sl.cut hl cap u (by rw [← hn.out]; exact hc)).take v, ?_⟩
          rw [List.length_take, List.length_drop, ← hn.out]; omega
        obtain ⟨ca, hca⟩ := cutA_some ⟨ab, ao, none⟩ cap u 1
        rw [hca] at hlh hT
        have hle : v ≤ cap - u := by omega
        have hclone : ∀ W, Hid (Below w.heap.size w W) → Calls Try.prog 27 #[.slice (some ca) v (cap - u)] W (RetA W 5 1 encB ((l.drop u).take v)) := fun W hW => by
          refine (Bytes.copy_any ((l.drop u).take v) (some ca) v (cap - u) W (hT.out.1.ext hW.out) (by rw [← hT.out.2]; omega) hT.out.2).mono ?_
          rintro e w' ⟨v', rfl, hown, hb⟩
          exact ⟨v', rfl, OwnA.of_own hown, fun k hk => (hown.lt hk).1, hb⟩
        rw [← htt] at e3 ht
        have hlt2 : Hid (((l.drop u).take v).length ≤ 1000000) := by rw [Hid, ← hT.out.2]; omega
        have HCC := Lib.hid hc
        clear hg0 hg hl hs htt hT hc hle hun hun0 hu
        go_enter Try.func93, Try.ntmps93
        go_wp2_with (first | (go_at_call 110; refine (rget_any l (some ⟨ab, ao, none⟩) n cap 0 _ HL.out hn HCC.out hm).mono ?_; rintro e w1 ⟨rfl, hb⟩; rw [e0]; have HB : Hid (Blk w1 w.heap.size 38 zV ∧ Blk w1 (w.heap.size + 1) 38 zV ∧ Below w.heap.size w w1) := ⟨HZ.out.1.ext hb, HZ.out.2.1.ext hb, ext_under HZ.out.2.2 (Nat.le_refl _) hb⟩; clear hb; have c0 : w1.cell? ⟨w.heap.size, 0, none⟩ = some (.int .u64 0) := HB.out.1.cell 0; have c1 : w1.cell? ⟨w.heap.size, 1, none⟩ = some (.int .i64 0) := HB.out.1.cell 1; have c2 : w1.cell? ⟨w.heap.size, 2, none⟩ = some (.bool false) := HB.out.1.cell 2; have c3 : w1.cell? ⟨w.heap.size, 3, none⟩ = some (.slice none 0 0) := HB.out.1.cell 3; have c4 : w1.cell? ⟨w.heap.size, 4, none⟩ = some (.slice none 0 0) := HB.out.1.cell 4; have f0 := HB.out.1.free 0; have f1 := HB.out.1.free 1; have f2 := HB.out.1.free 2; have f3 := HB.out.1.free 3; have f4 := HB.out.1.free 4; have bx0 : w1.cell? ⟨w.heap.size + 1, 0, none⟩ = some (.int .u64 0) := HB.out.2.1.cell 0; have bx1 : w1.cell? ⟨w.heap.size + 1, 1, none⟩ = some (.int .i64 0) := HB.out.2.1.cell 1; have bx2 : w1.cell? ⟨w.heap.size + 1, 2, none⟩ = some (.bool false) := HB.out.2.1.cell 2; have bx3 : w1.cell? ⟨w.heap.size + 1, 3, none⟩ = some (.slice none 0 0) := HB.out.2.1.cell 3; have bx4 : w1.cell? ⟨w.heap.size + 1, 4, none⟩ = some (.slice none 0 0) := HB.out.2.1.cell 4; have bf0 := HB.out.2.1.free 0; have bf1 := HB.out.2.1.free 1; have bf2 := HB.out.2.1.free 2; have bf3 := HB.out.2.1.free 3; have bf4 := HB.out.2.1.free 4) | (go_at_call 27; refine (hclone _ (Lib.hid HB.out.2.2)).mono ?_; rintro e w2 ⟨v2, rfl, hown2, hfr2, hb2⟩; obtain ⟨A2, n2, c2', rfl, hn2, hle2, hmx2, hnil2⟩ := hown2.form; have HC : Hid (Blk w2 w.heap.size 38 zV ∧ Blk w2 (w.heap.size + 1) 38 zV ∧ Below w.heap.size w w2) := ⟨HB.out.1.ext hb2, HB.out.2.1.ext hb2, ext_under HB.out.2.2 (Nat.le_refl _) hb2⟩; have HO := Lib.hid (And.intro hown2 (And.intro hfr2 HB.out.2.1.lt)); clear hown2 hfr2 hb2; have k0 : w2.cell? ⟨w.heap.size, 0, none⟩ = some (.int .u64 0) := HC.out.1.cell 0; have k1 : w2.cell? ⟨w.heap.size, 1, none⟩ = some (.int .i64 0) := HC.out.1.cell 1; have k2 : w2.cell? ⟨w.heap.size, 2, none⟩ = some (.bool false) := HC.out.1.cell 2; have k3 : w2.cell? ⟨w.heap.size, 3, none⟩ = some (.slice none 0 0) := HC.out.1.cell 3; have k4 : w2.cell? ⟨w.heap.size, 4, none⟩ = some (.slice none 0 0) := HC.out.1.cell 4; have g0 := HC.out.1.free 0; have g1 := HC.out.1.free 1; have g2 := HC.out.1.free 2; have g3 := HC.out.1.free 3; have g4 := HC.out.1.free 4; have m0 : w2.cell? ⟨w.heap.size + 1, 0, none⟩ = some (.int .u64 0) := HC.out.2.1.cell 0; have m1 : w2.cell? ⟨w.heap.size + 1, 1, none⟩ = some (.int .i64 0) := HC.out.2.1.cell 1; have m2 : w2.cell? ⟨w.heap.size + 1, 2, none⟩ = some (.bool false) := HC.out.2.1.cell 2; have m3 : w2.cell? ⟨w.heap.size + 1, 3, none⟩ = some (.slice none 0 0) := HC.out.2.1.cell 3; have m4 : w2.cell? ⟨w.heap.size + 1, 4, none⟩ = some (.slice none 0 0) := HC.out.2.1.cell 4; have o0 := HC.out.2.1.free 0; have o1 := HC.out.2.1.free 1; have o2 := HC.out.2.1.free 2; have o3 := HC.out.2.1.free 3; have o4 := HC.out.2.1.free 4))
        have HOK : Hid (Wr.Ok (((((((w2.setCell ⟨w.heap.size + 1, 3, none⟩ (.slice A2 n2 c2')).setCell ⟨w.heap.size, 0, none⟩ (.int .u64 0)).setCell ⟨w.heap.size, 1, none⟩ (.int .i64 0)).setCell ⟨w.heap.size, 2, none⟩ (.bool false)).setCell ⟨w.heap.size, 3, none⟩ (.slice A2 n2 c2')).setCell ⟨w.heap.size, 4, none⟩ (.slice none 0 0))) ⟨{ wv0 with b := (l.drop u).take v }, A2, n2, c2', none, 0, 0⟩) := by
          refine ⟨HO.out.1.chg (chg_five ((Chg.refl (fun k => k = w.heap.size ∨ k = w.heap.size + 1) w2).setCell (p := ⟨w.heap.size + 1, 3, none⟩) (fun _ => .inr rfl) _) (.inl rfl) _ _ _ _ _) (fun k hk h => ?_), OwnA.nil_ _ _ _ _, wv0_wf.1, wv0_wf.2.1, wv0_wf.2.2.1, wv0_wf.2.2.2.1, hlt2.out, wv0_wf.2.2.2.2.2⟩
          have := HO.out.2.1 k hk
          have := HO.out.2.2
          omega
        have hF := blk_five (HC.out.1.far (p := ⟨w.heap.size + 1, 3, none⟩) (by simp) (.slice A2 n2 c2')) (.int .u64 0) (.int .i64 0) (.bool false) (.slice A2 n2 c2') (.slice none 0 0); have q0 := hF.cell 0; have q1 := hF.cell 1; have q2 := hF.cell 2; have q3 := hF.cell 3; have q4 := hF.cell 4; clear hF
        refine bodyPost_ret (v := .tuple #[(⟨{ wv0 with b := (l.drop u).take v }, A2, n2, c2', none, 0, 0⟩ : Wr).agg, .int .i64 (t : Int)]) ?_ rfl ⟨below_five (HC.out.2.2.setCell (p := ⟨w.heap.size + 1, 3, none⟩) (Nat.le_succ _) _) (Nat.le_refl _) _ _ _ _ _, by
          rw [ht.out]
          refine ⟨⟨{ wv0 with b := (l.drop u).take v }, A2, n2, c2', none, 0, 0⟩, rfl, rfl, HOK.out, fun k hk => ?_, fun k hk => by simp [blockOf] at hk⟩
          have := HO.out.2.1 k (by revert hk; cases A2 <;> simp [Value.ownBlock, blockOf])
          have := HO.out.2.2
          omega⟩
        simp [results, Try.results93, go_sem, q0, q1, q2, q3, q4, Wr.agg, wv0]
      · have ht : Hid (takeK .bytes l = none) := by unfold Hid takeK; rw [hg]; simp only; rw [if_neg (fun h => hfit (by rw [hn.out]; exact h.2))]
        obtain ⟨t, htt⟩ : ∃ t, t = u + v := ⟨_, rfl⟩
        rw [← htt] at e3
        have d2 : decide (n < t) = true := decide_eq_true (by have := hn.out; omega)
        clear htt
        clear hg0 hg hl hs
        go_enter Try.func93, Try.ntmps93
        go_wp2_with (go_at_call 110; refine (rget_any l (some ⟨ab, ao, none⟩) n cap 0 _ HL.out hn hc hm).mono ?_; rintro e w1 ⟨rfl, hb⟩; rw [e0]; have HB : Hid (Blk w1 w.heap.size 38 zV ∧ Blk w1 (w.heap.size + 1) 38 zV ∧ Below w.heap.size w w1) := ⟨HZ.out.1.ext hb, HZ.out.2.1.ext hb, ext_under HZ.out.2.2 (Nat.le_refl _) hb⟩; clear hb; have c0 : w1.cell? ⟨w.heap.size, 0, none⟩ = some (.int .u64 0) := HB.out.1.cell 0; have c1 : w1.cell? ⟨w.heap.size, 1, none⟩ = some (.int .i64 0) := HB.out.1.cell 1; have c2 : w1.cell? ⟨w.heap.size, 2, none⟩ = some (.bool false) := HB.out.1.cell 2; have c3 : w1.cell? ⟨w.heap.size, 3, none⟩ = some (.slice none 0 0) := HB.out.1.cell 3; have c4 : w1.cell? ⟨w.heap.size, 4, none⟩ = some (.slice none 0 0) := HB.out.1.cell 4; have f0 := HB.out.1.free 0; have f1 := HB.out.1.free 1; have f2 := HB.out.1.free 2; have f3 := HB.out.1.free 3; have f4 := HB.out.1.free 4; have bx0 : w1.cell? ⟨w.heap.size + 1, 0, none⟩ = some (.int .u64 0) := HB.out.2.1.cell 0; have bx1 : w1.cell? ⟨w.heap.size + 1, 1, none⟩ = some (.int .i64 0) := HB.out.2.1.cell 1; have bx2 : w1.cell? ⟨w.heap.size + 1, 2, none⟩ = some (.bool false) := HB.out.2.1.cell 2; have bx3 : w1.cell? ⟨w.heap.size + 1, 3, none⟩ = some (.slice none 0 0) := HB.out.2.1.cell 3; have bx4 : w1.cell? ⟨w.heap.size + 1, 4, none⟩ = some (.slice none 0 0) := HB.out.2.1.cell 4; have bf0 := HB.out.2.1.free 0; have bf1 := HB.out.2.1.free 1; have bf2 := HB.out.2.1.free 2; have bf3 := HB.out.2.1.free 3; have bf4 := HB.out.2.1.free 4)
        have hF := blk_five (HB.out.1) (.int .u64 0) (.int .i64 0) (.bool false) (.slice none 0 0) (.slice none 0 0); have q0 := hF.cell 0; have q1 := hF.cell 1; have q2 := hF.cell 2; have q3 := hF.cell 3; have q4 := hF.cell 4; clear hF
        refine bodyPost_ret (v := .tuple #[wr0.agg, .int .i64 0]) ?_ rfl ⟨below_five HB.out.2.2 (Nat.le_refl _) _ _ _ _ _, by rw [ht.out]⟩
        simp [results, Try.results93, go_sem, q0, q1, q2, q3, q4, wr0_agg]
    · have ht : Hid (takeK .bytes l = none) := by unfold Hid takeK; rw [hg]; simp only; rw [if_neg (fun h => hbig h.1)]
      have d1 : decide ((262144 : Int) < (v : Int)) = true := decide_eq_true (by omega)
      clear hg0 hg hl hs
      go_enter Try.func93, Try.ntmps93
      go_wp2_with (go_at_call 110; refine (rget_any l (some ⟨ab, ao, none⟩) n cap 0 _ HL.out hn hc hm).mono ?_; rintro e w1 ⟨rfl, hb⟩; rw [e0]; have HB : Hid (Blk w1 w.heap.size 38 zV ∧ Blk w1 (w.heap.size + 1) 38 zV ∧ Below w.heap.size w w1) := ⟨HZ.out.1.ext hb, HZ.out.2.1.ext hb, ext_under HZ.out.2.2 (Nat.le_refl _) hb⟩; clear hb; have c0 : w1.cell? ⟨w.heap.size, 0, none⟩ = some (.int .u64 0) := HB.out.1.cell 0; have c1 : w1.cell? ⟨w.heap.size, 1, none⟩ = some (.int .i64 0) := HB.out.1.cell 1; have c2 : w1.cell? ⟨w.heap.size, 2, none⟩ = some (.bool false) := HB.out.1.cell 2; have c3 : w1.cell? ⟨w.heap.size, 3, none⟩ = some (.slice none 0 0) := HB.out.1.cell 3; have c4 : w1.cell? ⟨w.heap.size, 4, none⟩ = some (.slice none 0 0) := HB.out.1.cell 4; have f0 := HB.out.1.free 0; have f1 := HB.out.1.free 1; have f2 := HB.out.1.free 2; have f3 := HB.out.1.free 3; have f4 := HB.out.1.free 4; have bx0 : w1.cell? ⟨w.heap.size + 1, 0, none⟩ = some (.int .u64 0) := HB.out.2.1.cell 0; have bx1 : w1.cell? ⟨w.heap.size + 1, 1, none⟩ = some (.int .i64 0) := HB.out.2.1.cell 1; have bx2 : w1.cell? ⟨w.heap.size + 1, 2, none⟩ = some (.bool false) := HB.out.2.1.cell 2; have bx3 : w1.cell? ⟨w.heap.size + 1, 3, none⟩ = some (.slice none 0 0) := HB.out.2.1.cell 3; have bx4 : w1.cell? ⟨w.heap.size + 1, 4, none⟩ = some (.slice none 0 0) := HB.out.2.1.cell 4; have bf0 := HB.out.2.1.free 0; have bf1 := HB.out.2.1.free 1; have bf2 := HB.out.2.1.free 2; have bf3 := HB.out.2.1.free 3; have bf4 := HB.out.2.1.free 4)
      have hF := blk_five (HB.out.1) (.int .u64 0) (.int .i64 0) (.bool false) (.slice none 0 0) (.slice none 0 0); have q0 := hF.cell 0; have q1 := hF.cell 1; have q2 := hF.cell 2; have q3 := hF.cell 3; have q4 := hF.cell 4; clear hF
      refine bodyPost_ret (v := .tuple #[wr0.agg, .int .i64 0]) ?_ rfl ⟨below_five HB.out.2.2 (Nat.le_refl _) _ _ _ _ _, by rw [ht.out]⟩
      simp [results, Try.results93, go_sem, q0, q1, q2, q3, q4, wr0_agg]
end Go.Proofs.Ytoneechcclndaaa.Wire

namespace Go.Proofs.Ytoneechcclndaaa.Wire
open Go.RowKit Go.ChangeShapes Go.WideShapes Go.ChangeAt
set_option linter.unusedVariables false
set_option linter.unusedSimpArgs false
attribute [local go_sem ↓] Go.wp_at_zero Go.wp_at_succ
open Go.Shelf Go.Proofs.Ytoneechcclndaaa.Word

/-- the boxes of the document's take -/
structure NC (w wr : World) (A : Option Addr) (n c : Nat) (xs : List Nat) : Prop where
  blk0 : Blk wr w.heap.size 38 zV
  blk : Blk wr (w.heap.size + 1) 38 #[.int .u64 0, .int .i64 0, .bool false, .slice none 0 0, .slice A n c]
  own : OwnA wr 34 1 encN (.slice A n c) xs
  fr : ∀ k, (Value.slice A n c).ownBlock = some k → w.heap.size + 1 < k
  be : Below w.heap.size w wr
theorem NC.ext {w wr w1 : World} {A : Option Addr} {n c : Nat} {xs : List Nat} (h : NC w wr A n c xs) (hb : Below wr.heap.size wr w1) : NC w w1 A n c xs :=
  ⟨h.blk0.ext hb, h.blk.ext hb, h.own.ext hb, h.fr, ext_under h.be (Nat.le_refl _) hb⟩
theorem NC.appended {w w1 w2 : World} {o : Obj} {A A' : Option Addr} {n c n' c' : Nat} {xs ys : List Nat} (h : NC w w1 A n c xs) (hown : OwnA w2 34 1 encN (.slice A' n' c') ys)
    (hc : Chg (fun k => (Value.slice A n c).ownBlock = some k) (w1.alloc o) w2) (hat : (Value.slice A' n' c').ownBlock = (Value.slice A n c).ownBlock ∨ (Value.slice A' n' c').ownBlock = some (w1.alloc o).heap.size) :
    Blk w2 (w.heap.size + 1) 38 #[.int .u64 0, .int .i64 0, .bool false, .slice none 0 0, .slice A n c] ∧ NC w (w2.setCell ⟨w.heap.size + 1, 4, none⟩ (.slice A' n' c')) A' n' c' ys := by
  have hfr : ∀ k, (Value.slice A' n' c').ownBlock = some k → w.heap.size + 1 < k := fun k hk => by
    rcases hat with hat | hat
    · exact h.fr k (hat ▸ hk)
    · rw [hat] at hk
      injection hk with hk
      have := h.blk.lt
      rw [World.size_alloc] at hk
      omega
  have hb2 : Blk w2 (w.heap.size + 1) 38 #[.int .u64 0, .int .i64 0, .bool false, .slice none 0 0, .slice A n c] := (h.blk.alloc o).chg hc (fun hk => by have := h.fr _ hk; omega)
  have hb0 : Blk w2 w.heap.size 38 zV := (h.blk0.alloc o).chg hc (fun hk => by have := h.fr _ hk; omega)
  have h1 : Below w.heap.size w (w1.alloc o) := h.be.alloc h.be.size _
  have h2 : Below w.heap.size w w2 := h1.trans (hc.below h1.size (fun i hi hs => by have := h.fr _ hs; omega))
  exact ⟨hb2, hb0.far (by simp) _, hb2.set_ 4 _, hown.chg ((Chg.refl (fun k => k = w.heap.size + 1) w2).setCell (p := ⟨w.heap.size + 1, 4, none⟩) (fun _ => rfl) _) (fun k hk e => by have := hfr k hk; omega), hfr, h2.setCell (p := ⟨w.heap.size + 1, 4, none⟩) (Nat.le_succ _) _⟩

set_option maxHeartbeats 4000000 in
set_option maxRecDepth 100000 in
theorem rrow_any (l : List UInt8) (A : Option Addr) (n cap : Nat) (w : World) (hl : BySl w w.heap.size A l) (hn : Hid (n = l.length)) (hc : n ≤ cap) (hm : n ≤ 1000000000000) :
    Calls Try.prog 93 #[.int .u8 108, .slice A n cap] w (RetRk w (takeK .row l)) := by
  have HZ := Lib.hid (two_boxes w)
  have HL := Lib.hid (hl.ext HZ.out.2.2)
  have hg0 : getAt l 0 = getW l := getAt_zero l
  cases hg : getW l with
  | none =>
    have ht : Hid (takeK .row l = none) := by unfold Hid takeK; rw [hg]
    have e0 : getV (getAt l 0) = .tuple #[.int .u64 0, .int .i64 0, .bool false] := by rw [hg0, hg]; rfl
    clear hg0 hg hl
    go_enter Try.func93, Try.ntmps93
    go_wp2_with (go_at_call 110; refine (rget_any l A n cap 0 _ HL.out hn hc hm).mono ?_; rintro e w1 ⟨rfl, hb⟩; rw [e0]; have HB : Hid (Blk w1 w.heap.size 38 zV ∧ Blk w1 (w.heap.size + 1) 38 zV ∧ Below w.heap.size w w1) := ⟨HZ.out.1.ext hb, HZ.out.2.1.ext hb, ext_under HZ.out.2.2 (Nat.le_refl _) hb⟩; clear hb; have c0 : w1.cell? ⟨w.heap.size, 0, none⟩ = some (.int .u64 0) := HB.out.1.cell 0; have c1 : w1.cell? ⟨w.heap.size, 1, none⟩ = some (.int .i64 0) := HB.out.1.cell 1; have c2 : w1.cell? ⟨w.heap.size, 2, none⟩ = some (.bool false) := HB.out.1.cell 2; have c3 : w1.cell? ⟨w.heap.size, 3, none⟩ = some (.slice none 0 0) := HB.out.1.cell 3; have c4 : w1.cell? ⟨w.heap.size, 4, none⟩ = some (.slice none 0 0) := HB.out.1.cell 4; have f0 := HB.out.1.free 0; have f1 := HB.out.1.free 1; have f2 := HB.out.1.free 2; have f3 := HB.out.1.free 3; have f4 := HB.out.1.free 4; have bx0 : w1.cell? ⟨w.heap.size + 1, 0, none⟩ = some (.int .u64 0) := HB.out.2.1.cell 0; have bx1 : w1.cell? ⟨w.heap.size + 1, 1, none⟩ = some (.int .i64 0) := HB.out.2.1.cell 1; have bx2 : w1.cell? ⟨w.heap.size + 1, 2, none⟩ = some (.bool false) := HB.out.2.1.cell 2; have bx3 : w1.cell? ⟨w.heap.size + 1, 3, none⟩ = some (.slice none 0 0) := HB.out.2.1.cell 3; have bx4 : w1.cell? ⟨w.heap.size + 1, 4, none⟩ = some (.slice none 0 0) := HB.out.2.1.cell 4; have bf0 := HB.out.2.1.free 0; have bf1 := HB.out.2.1.free 1; have bf2 := HB.out.2.1.free 2; have bf3 := HB.out.2.1.free 3; have bf4 := HB.out.2.1.free 4)
    have hF := blk_five (HB.out.1) (.int .u64 0) (.int .i64 0) (.bool false) (.slice none 0 0) (.slice none 0 0); have q0 := hF.cell 0; have q1 := hF.cell 1; have q2 := hF.cell 2; have q3 := hF.cell 3; have q4 := hF.cell 4; clear hF
    refine bodyPost_ret (v := .tuple #[wr0.agg, .int .i64 0]) ?_ rfl ⟨below_five HB.out.2.2 (Nat.le_refl _) _ _ _ _ _, by rw [ht.out]⟩
    simp [results, Try.results93, go_sem, q0, q1, q2, q3, q4, wr0_agg]
  | some x =>
    obtain ⟨m, u⟩ := x
    have e0 : getV (getAt l 0) = .tuple #[.int .u64 (m : Int), .int .i64 (u : Int), .bool true] := by rw [hg0, hg]; rfl
    have hs := get_some hg
    have hu := hs.2.2.2.1
    by_cases hbig : m ≤ 4096
    · have ht : Hid (takeK .row l = (takeL m (l.drop u)).map fun (l, k) => ({ wv0 with l := l }, u + k)) := by unfold Hid takeK; rw [hg]; simp only; rw [if_pos hbig]
      have d1 : decide ((4096 : Int) < (m : Int)) = false := decide_eq_false (by omega)
      have HLw := Lib.hid hl
      obtain ⟨i0, hi, hz, hz1, hz2⟩ := info_parts nInfo
      clear hg0 hg hl hs
      go_enter Try.func93, Try.ntmps93
      go_wp2_with (go_at_call 110; refine (rget_any l A n cap 0 _ HL.out hn hc hm).mono ?_; rintro e w1 ⟨rfl, hb⟩; rw [e0]; have HB : Hid (Blk w1 w.heap.size 38 zV ∧ Blk w1 (w.heap.size + 1) 38 zV ∧ Below w.heap.size w w1) := ⟨HZ.out.1.ext hb, HZ.out.2.1.ext hb, ext_under HZ.out.2.2 (Nat.le_refl _) hb⟩; clear hb; have c0 : w1.cell? ⟨w.heap.size, 0, none⟩ = some (.int .u64 0) := HB.out.1.cell 0; have c1 : w1.cell? ⟨w.heap.size, 1, none⟩ = some (.int .i64 0) := HB.out.1.cell 1; have c2 : w1.cell? ⟨w.heap.size, 2, none⟩ = some (.bool false) := HB.out.1.cell 2; have c3 : w1.cell? ⟨w.heap.size, 3, none⟩ = some (.slice none 0 0) := HB.out.1.cell 3; have c4 : w1.cell? ⟨w.heap.size, 4, none⟩ = some (.slice none 0 0) := HB.out.1.cell 4; have f0 := HB.out.1.free 0; have f1 := HB.out.1.free 1; have f2 := HB.out.1.free 2; have f3 := HB.out.1.free 3; have f4 := HB.out.1.free 4; have bx0 : w1.cell? ⟨w.heap.size + 1, 0, none⟩ = some (.int .u64 0) := HB.out.2.1.cell 0; have bx1 : w1.cell? ⟨w.heap.size + 1, 1, none⟩ = some (.int .i64 0) := HB.out.2.1.cell 1; have bx2 : w1.cell? ⟨w.heap.size + 1, 2, none⟩ = some (.bool false) := HB.out.2.1.cell 2; have bx3 : w1.cell? ⟨w.heap.size + 1, 3, none⟩ = some (.slice none 0 0) := HB.out.2.1.cell 3; have bx4 : w1.cell? ⟨w.heap.size + 1, 4, none⟩ = some (.slice none 0 0) := HB.out.2.1.cell 4; have bf0 := HB.out.2.1.free 0; have bf1 := HB.out.2.1.free 1; have bf2 := HB.out.2.1.free 2; have bf3 := HB.out.2.1.free 3; have bf4 := HB.out.2.1.free 4)
      go_loopg [8, 10] m (fun gk vu vj wr => ∃ (j d : Nat) (xs : List Nat) (A2 : Option Addr) (n2 c2 : Nat), vj = .int .i64 (j : Int) ∧ vu = .int .i64 ((u + d : Nat) : Int) ∧ m ≤ j + gk ∧ j ≤ m ∧ Hid (NI l u m j d xs) ∧ Hid (NC w wr A2 n2 c2 xs))
      case atStart =>
        refine ⟨0, 0, [], none, 0, 0, rfl, rfl, by omega, by omega, ⟨?_, rfl, by simp, hu⟩, ⟨HB.out.1, HB.out.2.1, OwnA.nil_ _ _ _ _, (fun k hk => by cases hk), HB.out.2.2⟩⟩
        show takeL m (l.drop u) = (takeL (m - 0) (l.drop (u + 0))).map _
        rw [Nat.sub_zero, Nat.add_zero]
        cases takeL m (l.drop u) with
        | none => rfl
        | some y => obtain ⟨ys, t⟩ := y; simp
      case round =>
        obtain ⟨j, d, xs, A2, n2, c2, rfl, rfl, hgk, hj, hN, hNB⟩ := hrel
        have hlw : BySl wr wr.heap.size A l := (HLw.out.below hNB.out.be).more hNB.out.be.size
        have HW := Lib.hid hlw
        clear hlw
        have em : IntKind.i64.wrap (m : Int) = (m : Int) := IntWalk.i64_in _ (by omega)
        by_cases hjm : j < m
        · have d2 : decide ((j : Int) < (m : Int)) = true := decide_eq_true (by omega)
          have hgn := getAt_nat l (u + d)
          have hle := hN.out.le
          obtain ⟨at', hat'⟩ : ∃ t, t = u + d := ⟨_, rfl⟩
          rw [← hat'] at hgn
          cases hg : getW (l.drop (u + d)) with
          | none =>
            have ht2 : Hid (takeK .row l = none) := by rw [Hid, ht.out, hN.out.none hjm hg]; rfl
            have e1 : getV (getAt l (at' : Int)) = .tuple #[.int .u64 0, .int .i64 0, .bool false] := by rw [hgn, hat', hg]; rfl
            rw [← hat']
            clear hg hgn hat' hle
            go_wp2_with (go_at_call 110; refine (rget_any l A n cap (at' : Int) _ HW.out hn hc hm).mono ?_; rintro e w1 ⟨rfl, hb⟩; rw [e1]; have HX := Lib.hid (hNB.out.ext hb); clear hb; have k0 : w1.cell? ⟨w.heap.size, 0, none⟩ = some (.int .u64 0) := HX.out.blk0.cell 0; have k1 : w1.cell? ⟨w.heap.size, 1, none⟩ = some (.int .i64 0) := HX.out.blk0.cell 1; have k2 : w1.cell? ⟨w.heap.size, 2, none⟩ = some (.bool false) := HX.out.blk0.cell 2; have k3 : w1.cell? ⟨w.heap.size, 3, none⟩ = some (.slice none 0 0) := HX.out.blk0.cell 3; have k4 : w1.cell? ⟨w.heap.size, 4, none⟩ = some (.slice none 0 0) := HX.out.blk0.cell 4; have g0 := HX.out.blk0.free 0; have g1 := HX.out.blk0.free 1; have g2 := HX.out.blk0.free 2; have g3 := HX.out.blk0.free 3; have g4 := HX.out.blk0.free 4)
            have hF := blk_five (HX.out.blk0) (.int .u64 0) (.int .i64 0) (.bool false) (.slice none 0 0) (.slice none 0 0); have q0 := hF.cell 0; have q1 := hF.cell 1; have q2 := hF.cell 2; have q3 := hF.cell 3; have q4 := hF.cell 4; clear hF
            refine bodyPost_ret (v := .tuple #[wr0.agg, .int .i64 0]) ?_ rfl ⟨below_five HX.out.be (Nat.le_refl _) _ _ _ _ _, by rw [ht2.out]⟩
            simp [results, Try.results93, go_sem, q0, q1, q2, q3, q4, wr0_agg]
          | some x =>
            obtain ⟨x, k⟩ := x
            have e1 : getV (getAt l (at' : Int)) = .tuple #[.int .u64 (x : Int), .int .i64 (k : Int), .bool true] := by rw [hgn, hat', hg]; rfl
            have hs := get_some hg
            have hk := hs.2.2.2.1
            rw [List.length_drop] at hk
            have e2 : IntKind.i64.wrap ((at' : Int) + (k : Int)) = ((at' + k : Nat) : Int) := by rw [IntWalk.i64_in _ (by have := hn.out; omega)]; omega
            have e3 : IntKind.i64.wrap ((j : Int) + 1) = ((j + 1 : Nat) : Int) := by rw [IntWalk.i64_in _ (by omega)]; omega
            obtain ⟨at2, hat2⟩ : ∃ t, t = at' + k := ⟨_, rfl⟩
            rw [← hat2] at e2
            have HN2 := Lib.hid (And.intro (hN.out.next hjm hg) (show at2 = u + (d + k) from by omega))
            have hb1 : Hid (xs.length + [x].length ≤ maxLen) := by rw [Hid, hN.out.len]; simp [maxLen]; omega
            have hb2 : Hid ((xs.length + [x].length) * 8 ≤ 140737488355328) := by rw [Hid, hN.out.len]; simp; omega
            rw [← hat']
            clear hg hgn hat' hle hs hk hat2
            go_wp2_with (first | (go_at_call 110; refine (rget_any l A n cap (at' : Int) _ HW.out hn hc hm).mono ?_; rintro e w1 ⟨rfl, hb⟩; rw [e1]; have HX := Lib.hid (hNB.out.ext hb); clear hb; have k4 : w1.cell? ⟨w.heap.size + 1, 4, none⟩ = some (.slice A2 n2 c2) := HX.out.blk.cell 4; have hlt := HX.out.blk.lt) | (at_builtin; refine wpList_append_a _ rfl _ _ _ rfl 34 i0 _ 1 8 Try.underlying36 hi hz hz1 hz2 rfl (by decide) encN_len encN_one _ xs (by rfl) (HX.out.own.alloc _) _ (some ⟨w1.heap.size, 0, none⟩) [x] 1 1 (by rfl) rfl (lit_nat w1 x 34) hb1.out hb2.out ?_; intro v' w' hown' hchg hat; obtain ⟨A3, n3, c3', rfl, hn3, hle3, hmx3, hnil3⟩ := hown'.form; have HA := Lib.hid (HX.out.appended hown' hchg hat); clear hown' hchg hat; have g4 := HA.out.1.free 4; have k4' : w'.cell? ⟨w.heap.size + 1, 4, none⟩ = some (.slice A2 n2 c2) := HA.out.1.cell 4))
            go_roundg (gk - 1)
            case measure => omega
            case rel => exact ⟨j + 1, d + k, xs ++ [x], A3, n3, c3', by go_num, by rw [HN2.out.2], by omega, by omega, HN2.out.1, HA.out.2⟩
        · have d2 : decide ((j : Int) < (m : Int)) = false := decide_eq_false (by omega)
          obtain rfl : j = m := by omega
          have ht2 : Hid (takeK .row l = some ({ wv0 with l := xs }, u + d)) := by rw [Hid, ht.out, hN.out.done]; rfl
          have k0 : wr.cell? ⟨w.heap.size + 1, 0, none⟩ = some (.int .u64 0) := hNB.out.blk.cell 0
          have k1 : wr.cell? ⟨w.heap.size + 1, 1, none⟩ = some (.int .i64 0) := hNB.out.blk.cell 1
          have k2 : wr.cell? ⟨w.heap.size + 1, 2, none⟩ = some (.bool false) := hNB.out.blk.cell 2
          have k3 : wr.cell? ⟨w.heap.size + 1, 3, none⟩ = some (.slice none 0 0) := hNB.out.blk.cell 3
          have k4 : wr.cell? ⟨w.heap.size + 1, 4, none⟩ = some (.slice A2 n2 c2) := hNB.out.blk.cell 4
          have j0 : wr.cell? ⟨w.heap.size, 0, none⟩ = some (.int .u64 0) := hNB.out.blk0.cell 0
          have j1 : wr.cell? ⟨w.heap.size, 1, none⟩ = some (.int .i64 0) := hNB.out.blk0.cell 1
          have j2 : wr.cell? ⟨w.heap.size, 2, none⟩ = some (.bool false) := hNB.out.blk0.cell 2
          have j3 : wr.cell? ⟨w.heap.size, 3, none⟩ = some (.slice none 0 0) := hNB.out.blk0.cell 3
          have j4 : wr.cell? ⟨w.heap.size, 4, none⟩ = some (.slice none 0 0) := hNB.out.blk0.cell 4
          have g0 := hNB.out.blk0.free 0
          have g1 := hNB.out.blk0.free 1
          have g2 := hNB.out.blk0.free 2
          have g3 := hNB.out.blk0.free 3
          have g4 := hNB.out.blk0.free 4
          obtain ⟨at', hat'⟩ : ∃ t, t = u + d := ⟨_, rfl⟩
          rw [← hat'] at ht2 ⊢
          clear hat'
          have hxl : Hid (xs.length ≤ 1000000) := by rw [Hid, hN.out.len]; omega
          go_wp2
          have hF := blk_five (hNB.out.blk0) (.int .u64 0) (.int .i64 0) (.bool false) (.slice none 0 0) (.slice A2 n2 c2); have q0 := hF.cell 0; have q1 := hF.cell 1; have q2 := hF.cell 2; have q3 := hF.cell 3; have q4 := hF.cell 4; clear hF
          refine bodyPost_ret (v := .tuple #[(⟨{ wv0 with l := xs }, none, 0, 0, A2, n2, c2⟩ : Wr).agg, .int .i64 (at' : Int)]) ?_ rfl ⟨below_five hNB.out.be (Nat.le_refl _) _ _ _ _ _, by
            rw [ht2.out]
            refine ⟨⟨{ wv0 with l := xs }, none, 0, 0, A2, n2, c2⟩, rfl, rfl, ⟨OwnA.nil_ _ _ _ _, hNB.out.own.chg (chg_five (Chg.refl (fun k => k = w.heap.size) wr) rfl _ _ _ _ _) (fun k hk e => by have := hNB.out.fr k hk; omega), wv0_wf.1, wv0_wf.2.1, wv0_wf.2.2.1, hN.out.wf, wv0_wf.2.2.2.2.1, hxl.out⟩, fun k hk => by simp [blockOf] at hk, fun k hk => ?_⟩
            have := hNB.out.fr k (by revert hk; cases A2 <;> simp [Value.ownBlock, blockOf])
            omega⟩
          simp [results, Try.results93, go_sem, q0, q1, q2, q3, q4, Wr.agg, wv0]
    · have ht : Hid (takeK .row l = none) := by unfold Hid takeK; rw [hg]; simp only; rw [if_neg hbig]
      have d1 : decide ((4096 : Int) < (m : Int)) = true := decide_eq_true (by omega)
      clear hg0 hg hl hs
      go_enter Try.func93, Try.ntmps93
      go_wp2_with (go_at_call 110; refine (rget_any l A n cap 0 _ HL.out hn hc hm).mono ?_; rintro e w1 ⟨rfl, hb⟩; rw [e0]; have HB : Hid (Blk w1 w.heap.size 38 zV ∧ Blk w1 (w.heap.size + 1) 38 zV ∧ Below w.heap.size w w1) := ⟨HZ.out.1.ext hb, HZ.out.2.1.ext hb, ext_under HZ.out.2.2 (Nat.le_refl _) hb⟩; clear hb; have c0 : w1.cell? ⟨w.heap.size, 0, none⟩ = some (.int .u64 0) := HB.out.1.cell 0; have c1 : w1.cell? ⟨w.heap.size, 1, none⟩ = some (.int .i64 0) := HB.out.1.cell 1; have c2 : w1.cell? ⟨w.heap.size, 2, none⟩ = some (.bool false) := HB.out.1.cell 2; have c3 : w1.cell? ⟨w.heap.size, 3, none⟩ = some (.slice none 0 0) := HB.out.1.cell 3; have c4 : w1.cell? ⟨w.heap.size, 4, none⟩ = some (.slice none 0 0) := HB.out.1.cell 4; have f0 := HB.out.1.free 0; have f1 := HB.out.1.free 1; have f2 := HB.out.1.free 2; have f3 := HB.out.1.free 3; have f4 := HB.out.1.free 4; have bx0 : w1.cell? ⟨w.heap.size + 1, 0, none⟩ = some (.int .u64 0) := HB.out.2.1.cell 0; have bx1 : w1.cell? ⟨w.heap.size + 1, 1, none⟩ = some (.int .i64 0) := HB.out.2.1.cell 1; have bx2 : w1.cell? ⟨w.heap.size + 1, 2, none⟩ = some (.bool false) := HB.out.2.1.cell 2; have bx3 : w1.cell? ⟨w.heap.size + 1, 3, none⟩ = some (.slice none 0 0) := HB.out.2.1.cell 3; have bx4 : w1.cell? ⟨w.heap.size + 1, 4, none⟩ = some (.slice none 0 0) := HB.out.2.1.cell 4; have bf0 := HB.out.2.1.free 0; have bf1 := HB.out.2.1.free 1; have bf2 := HB.out.2.1.free 2; have bf3 := HB.out.2.1.free 3; have bf4 := HB.out.2.1.free 4)
      have hF := blk_five (HB.out.1) (.int .u64 0) (.int .i64 0) (.bool false) (.slice none 0 0) (.slice none 0 0); have q0 := hF.cell 0; have q1 := hF.cell 1; have q2 := hF.cell 2; have q3 := hF.cell 3; have q4 := hF.cell 4; clear hF
      refine bodyPost_ret (v := .tuple #[wr0.agg, .int .i64 0]) ?_ rfl ⟨below_five HB.out.2.2 (Nat.le_refl _) _ _ _ _ _, by rw [ht.out]⟩
      simp [results, Try.results93, go_sem, q0, q1, q2, q3, q4, wr0_agg]
end Go.Proofs.Ytoneechcclndaaa.Wire

namespace Go.Proofs.Ytoneechcclndaaa.Wire
open Go.RowKit Go.ChangeShapes Go.WideShapes Go.ChangeAt
set_option linter.unusedVariables false
set_option linter.unusedSimpArgs false
attribute [local go_sem ↓] Go.wp_at_zero Go.wp_at_succ
open Go.Shelf Go.Proofs.Ytoneechcclndaaa.Word

theorem rtk_any (k : Kd) (l : List UInt8) (A : Option Addr) (n cap : Nat) (w : World) (hl : BySl w w.heap.size A l) (hn : Hid (n = l.length)) (hc : n ≤ cap) (hm : n ≤ 1000000000000) :
    Calls Try.prog 93 #[.int .u8 (k.byte : Int), .slice A n cap] w (RetRk w (takeK k l)) := by
  cases k with
  | nat => exact rnat_any l A n cap w hl hn hc hm
  | int => exact rint_any l A n cap w hl hn hc hm
  | flag => exact rflag_any l A n cap w hl hn (by omega)
  | bytes => exact rbytes_any l A n cap w hl hn hc hm
  | row => exact rrow_any l A n cap w hl hn hc hm

theorem kdOf_byte {x : Nat} {k : Kd} (h : kdOf x = some k) : x = k.byte := by
  unfold kdOf at h
  split at h; · cases h; assumption
  split at h; · cases h; assumption
  split at h; · cases h; assumption
  split at h; · cases h; assumption
  split at h; · cases h; assumption
  cases h
theorem kdOf_no {x : Nat} (h : kdOf x = none) : x ≠ 110 ∧ x ≠ 105 ∧ x ≠ 102 ∧ x ≠ 98 ∧ x ≠ 108 := by
  refine ⟨?_, ?_, ?_, ?_, ?_⟩ <;> (rintro rfl; revert h; decide)

theorem rschema_any (s : ByteArray) (w : World) (hs : s.data.toList.length ≤ 1000000) :
    Calls Try.prog 56 #[.string s] w fun e w' => e = .returned (.bool (schemaP s.data.toList).isSome) ∧ w = w' := by
  obtain ⟨l, hl⟩ : ∃ l, l = s.data.toList := ⟨_, rfl⟩
  rw [← hl] at hs ⊢
  have hsz : Hid (s.size = l.length) := by rw [hl]; rfl
  obtain ⟨n, hn⟩ : ∃ n, n = s.size := ⟨_, rfl⟩
  rw [← hn] at hsz
  have hnl : n ≤ 1000000 := by rw [hsz.out]; exact hs
  go_enter Try.func56, Try.ntmps56
  go_wp2
  go_loopg [3] n (fun gk vj wr => ∃ j : Nat, vj = .int .i64 (j : Int) ∧ n ≤ j + gk ∧ j ≤ n ∧ Hid ((kdsOf l).isSome = (kdsOf (l.drop j)).isSome) ∧ wr = w)
  case atStart => exact ⟨0, rfl, by omega, by omega, rfl, rfl⟩
  case round =>
    obtain ⟨j, rfl, hgk, hj, hI, rfl⟩ := hrel
    by_cases hjn : j < n
    · have hx : l[j]? = some l[j] := List.getElem?_eq_getElem (by rw [← hsz.out]; exact hjn)
      have HD := Lib.hid (List.drop_eq_getElem_cons (show j < l.length by rw [← hsz.out]; exact hjn))
      have hidx : ∀ W, (Instr.index 9 (.string s) (.int .i64 (j : Int))).run Try.prog W = .ok (.int .u8 (l[j].toNat : Int)) W := fun W => by
        have hj2 : j < s.data.toList.length := by rw [← hl, ← hsz.out]; exact hjn
        have e1 : l[j]'(by rw [← hsz.out]; exact hjn) = s.data.toList[j] := by subst hl; rfl
        rw [e1, run_index_string _ 9 s .i64 (j : Int) Try.underlying9, dif_pos ⟨Int.natCast_nonneg _, by have : s.size = s.data.toList.length := rfl; omega⟩]
        rfl
      generalize l[j] = x at *
      have b1 : (j : Int) < (n : Int) := by omega
      have b2 : decide (j < n) = true := decide_eq_true hjn
      rw [hn] at b1 b2
      cases hk : kdOf x.toNat with
      | some k =>
        have hb := kdOf_byte hk
        have HN : Hid ((kdsOf l).isSome = (kdsOf (l.drop (j + 1))).isSome) := by
          rw [Hid, hI.out, HD.out, kdsOf, hk]
          cases kdsOf (l.drop (j + 1)) <;> rfl
        rw [hb] at hidx
        clear hk hb
        cases k <;> (
          simp only [Kd.byte] at hidx
          go_wp2
          go_roundg (gk - 1)
          case measure => omega
          case rel => exact ⟨j + 1, by go_num, by omega, by omega, HN.out, rfl⟩)
      | none =>
        have ht : Hid ((schemaP l).isSome = false) := by
          unfold Hid schemaP
          split
          · rw [hI.out, HD.out, kdsOf, hk]; rfl
          · rfl
        obtain ⟨h1, h2, h3, h4, h5⟩ := kdOf_no hk
        clear hk
        generalize x.toNat = y at *
        have h1' : ((y : Int) != 110) = true := by simp; omega
        have h2' : ((y : Int) != 105) = true := by simp; omega
        have h3' : ((y : Int) != 102) = true := by simp; omega
        have h4' : ((y : Int) != 98) = true := by simp; omega
        have h5' : ((y : Int) != 108) = true := by simp; omega
        go_wp2
        go_ret
        exact ⟨ret_bool ht.out.symm, rfl⟩
    · have b2 : decide (j < n) = false := decide_eq_false hjn
      have ht : Hid ((schemaP l).isSome = decide (n ≤ 64)) := by
        unfold Hid schemaP
        rw [← hsz.out]
        split
        · rw [hI.out, List.drop_of_length_le (by rw [← hsz.out]; omega)]
          simp [kdsOf]; assumption
        · simp; omega
      have b3 : decide ((n : Int) ≤ 64) = decide (n ≤ 64) := by by_cases h : n ≤ 64 <;> simp [h] <;> omega
      rw [hn] at b2 b3
      rw [hn] at ht
      have HB3 := Lib.hid b3
      clear b3
      go_wp2
      go_ret
      exact ⟨ret_bool (by rw [ht.out, ← HB3.out]; try rfl), rfl⟩
end Go.Proofs.Ytoneechcclndaaa.Wire

namespace Go.Proofs.Ytoneechcclndaaa.Wire
open Go.RowKit Go.ChangeShapes Go.WideShapes Go.ChangeAt
set_option linter.unusedVariables false
set_option linter.unusedSimpArgs false
attribute [local go_sem ↓] Go.wp_at_zero Go.wp_at_succ
open Go.Shelf Go.Proofs.Ytoneechcclndaaa.Word

theorem str_index (s : ByteArray) (j : Nat) (x : UInt8) (hx : s.data.toList[j]? = some x) (W : World) : (Instr.index 9 (.string s) (.int .i64 (j : Int))).run Try.prog W = .ok (.int .u8 (x.toNat : Int)) W := by
  have hj : j < s.data.toList.length := (List.getElem?_eq_some_iff.1 hx).1
  have e1 : s.data.toList[j] = x := (List.getElem?_eq_some_iff.1 hx).2
  rw [← e1, run_index_string _ 9 s .i64 (j : Int) Try.underlying9, dif_pos ⟨Int.natCast_nonneg _, by have : s.size = s.data.toList.length := rfl; omega⟩]
  rfl
theorem kds_at : ∀ (s : List UInt8) (ks : List Kd), kdsOf s = some ks → ∀ (j : Nat) (hj : j < ks.length) {hj' : j < s.length}, (s[j]'hj').toNat = (ks[j]'hj).byte
  | [], ks, h, j, hj, hj' => absurd hj' (by simp)
  | x :: s, ks, h, j, hj, hj' => by
    unfold kdsOf at h
    cases hk : kdOf x.toNat with
    | none => rw [hk] at h; cases h
    | some k =>
      rw [hk] at h
      cases hs : kdsOf s with
      | none => rw [hs] at h; cases h
      | some r =>
        rw [hs] at h
        simp only [Option.map_some, Option.some.injEq] at h
        subst h
        rcases j with _ | j
        · exact kdOf_byte hk
        · exact kds_at s r hs j (by simpa using hj)
theorem below_ad (w : World) (o : Obj) : Below w.heap.size w (w.alloc o).drew := ((Below.refl _ _).alloc (Nat.le_refl _) _).drew
theorem below_d (w : World) : Below w.heap.size w w.drew := (Below.refl _ _).drew

set_option maxHeartbeats 4000000 in
set_option maxRecDepth 100000 in
theorem rtake_any (s : ByteArray) (l : List UInt8) (A : Option Addr) (n cap : Nat) (w : World) (hs : s.data.toList.length ≤ 1000000) (hl : BySl w w.heap.size A l) (hn : Hid (n = l.length)) (hc : n ≤ cap) (hm : n ≤ 1000000000000) :
    Calls Try.prog 78 #[.string s, .slice A n cap] w (RetTake w (takeP s.data.toList l)) := by
  obtain ⟨i0, hi, hz, hz1, hz2⟩ := info_parts vInfo
  have hsc := fun W => rschema_any s W hs
  have hix : ∀ (j : Nat) (x : UInt8), s.data.toList[j]? = some x → ∀ W, (Instr.index 9 (.string s) (.int .i64 (j : Int))).run Try.prog W = .ok (.int .u8 (x.toNat : Int)) W := fun j x hx W => str_index s j x hx W
  have hszn : Hid (s.size = s.data.toList.length) := rfl
  obtain ⟨m, hm0⟩ : ∃ m, m = s.size := ⟨_, rfl⟩
  rw [← hm0] at hszn
  generalize s.data.toList = sl at *
  have HL := Lib.hid hl
  cases hsp : schemaP sl with
  | none =>
    rw [hsp] at hsc
    have ht : Hid (takeP sl l = ([], 0, 2)) := by unfold Hid takeP; rw [hsp]
    clear hl
    go_enter Try.func78, Try.ntmps78
    go_wp2_with (go_at_call 56; refine (hsc _).mono ?_; rintro e w1 ⟨rfl, rfl⟩; simp only [Option.isSome])
    refine bodyPost_ret (v := .tuple #[.slice none 0 0, .int .i64 0, .int .i64 2]) (by simp [results, Try.results78, go_sem]) rfl ?_
    rw [ht.out]
    exact ⟨Below.refl _ _, none, 0, 0, [], rfl, rfl, VOwn.nil _ _⟩
  | some ks =>
    rw [hsp] at hsc
    have ht : Hid (takeP sl l = outT (takeS ks l)) := by unfold Hid takeP; rw [hsp]
    have hk64 : Hid (ks.length ≤ 64 ∧ ks.length = sl.length ∧ kdsOf sl = some ks) := by
      unfold schemaP at hsp
      split at hsp
      · rw [Hid, kds_length _ _ hsp]; exact ⟨by assumption, rfl, hsp⟩
      · cases hsp
    have hmk : Hid (m = ks.length) := by rw [Hid, hk64.out.2.1, hszn.out]
    have hm64 : m ≤ 64 := by rw [hmk.out]; exact hk64.out.1
    have HIX := Lib.hid hix
    clear hl hsp hix
    go_enter Try.func78, Try.ntmps78
    go_wp2_with (go_at_call 56; refine (hsc _).mono ?_; rintro e w1 ⟨rfl, rfl⟩; simp only [Option.isSome])
    go_loopg [7, 8, 9] m (fun gk vo vd vj wr => ∃ (j d : Nat) (rs : List Wr) (A2 : Option Addr) (n2 c2 : Nat), vj = .int .i64 (j : Int) ∧ vd = .int .i64 (d : Int) ∧ vo = .slice A2 n2 c2 ∧ m ≤ j + gk ∧ j ≤ m ∧ Hid (TI l ks w.heap.size w wr j d rs A2 n2 c2))
    case atStart =>
      refine ⟨0, 0, [], none, 0, 0, rfl, rfl, rfl, by omega, by omega, ⟨?_, VOwn.nil _ _, (fun k hk => by cases hk), Below.refl _ _, Nat.zero_le _, rfl⟩⟩
      rw [List.drop_zero, List.drop_zero]
      cases takeS ks l with
      | none => rfl
      | some y => obtain ⟨ys, t⟩ := y; simp
    case round =>
      obtain ⟨j, d, rs, A2, n2, c2, rfl, rfl, rfl, hgk, hj, hTI⟩ := hrel
      by_cases hjn : j < m
      · have hjk : j < ks.length := by rw [← hmk.out]; exact hjn
        have HD := Lib.hid (List.drop_eq_getElem_cons hjk)
        have hjs : j < sl.length := by rw [← hszn.out]; exact hjn
        have hkx : (sl[j]'hjs).toNat = (ks[j]'hjk).byte := kds_at sl ks hk64.out.2.2 j hjk
        have hidx := HIX.out j _ (List.getElem?_eq_getElem hjs)
        rw [hkx] at hidx
        generalize ks[j] = k at *
        have b2 : decide (j < m) = true := decide_eq_true hjn
        have b1 : (j : Int) < (m : Int) := by omega
        have hdl := hTI.out.le
        have hlo : ∀ W, (Instr.slice 25 (.slice A n cap) (some (.int .i64 (d : Int))) none none).run Try.prog W = .ok (.slice (cutA A cap d 1) (n - d) (cap - d)) W := fun W => by
          have := run_slice_lo (c := 1) Try.underlying25 (Option.isSome_iff_exists.1 (by kernel_rfl)) (by kernel_rfl) A n cap (d : Int) (by omega) (by rw [hn.out]; omega) W
          simpa using this
        have hbw : Hid (Below w.heap.size w wr) := hTI.out.be
        have htk : ∀ W2, Hid (Below wr.heap.size wr W2) → Calls Try.prog 93 #[.int .u8 (k.byte : Int), .slice (cutA A cap d 1) (n - d) (cap - d)] W2 (RetRk W2 (takeK k (l.drop d))) := fun W2 h2 => by
          refine rtk_any k (l.drop d) _ _ _ W2 ((((Sl.cut HL.out cap d (by rw [← hn.out]; exact hc)).below hbw.out).more hbw.out.size).ext h2.out) (by unfold Hid; rw [List.length_drop, ← hn.out]) (by omega) (by omega)
        generalize cutA A cap d 1 = Ac at *
        clear hkx
        rw [hm0] at b1 b2
        cases hk : takeK k (l.drop d) with
        | none =>
          rw [hk] at htk
          have ht2 : Hid (takeP sl l = ([], 0, 40)) := by
            rw [Hid, ht.out, hTI.out.eq, HD.out, takeS, hk]; rfl
          clear hk
          generalize k.byte = by' at *
          go_upto_region 8 with fail
          go_cut [10, 11] (fun s10 s11 wx => s11 = .int .i64 0 ∧ Hid (Below wr.heap.size wr wx))
          case first =>
            go_region_with (go_at_call 93; refine (htk _ ?_).mono ?_; (first | (with_reducible exact hb_d wr) | (with_reducible exact hb_ad wr _)); rintro e w3 ⟨hb3, rfl⟩; have hb4 : Below wr.heap.size wr w3 := (by first | (with_reducible exact b4_d hb3) | (with_reducible exact b4_ad hb3)); simp only [wr0_agg]; first | (have hB9 : Blk w3 wr.heap.size 38 #[.int .u64 0, .int .i64 0, .bool false, .slice none 0 0, .slice none 0 0] := (by with_reducible exact blk_1 hb3); have y0 : w3.cell? ⟨wr.heap.size, 0, none⟩ = some (.int .u64 0) := hB9.cell 0; have y1 : w3.cell? ⟨wr.heap.size, 1, none⟩ = some (.int .i64 0) := hB9.cell 1; have y2 : w3.cell? ⟨wr.heap.size, 2, none⟩ = some (.bool false) := hB9.cell 2; have y3 : w3.cell? ⟨wr.heap.size, 3, none⟩ = some (.slice none 0 0) := hB9.cell 3; have y4 : w3.cell? ⟨wr.heap.size, 4, none⟩ = some (.slice none 0 0) := hB9.cell 4; have g0 := hB9.free 0; have g1 := hB9.free 1; have g2 := hB9.free 2; have g3 := hB9.free 3; have g4 := hB9.free 4) | skip)
            all_goals (go_wp2_with fail; go_meet; first | (have h9 := hB9; exact ⟨rfl, Lib.hid (below_five hb4 (Nat.le_refl _) _ _ _ _ _)⟩) | exact ⟨rfl, Lib.hid (hb4.alloc hb4.size _)⟩)
          case rest =>
            obtain ⟨rfl, hwx⟩ := hcut
            go_wp2
            refine bodyPost_ret (v := .tuple #[.slice none 0 0, .int .i64 0, .int .i64 40]) (by simp [results, Try.results78, go_sem]) rfl ?_
            rw [ht2.out]
            exact ⟨hbw.out.trans (hwx.out.mono hbw.out.size), none, 0, 0, [], rfl, rfl, VOwn.nil _ _⟩
        | some y =>
          obtain ⟨v, u⟩ := y
          rw [hk] at htk
          have hnx := Lib.hid hk
          have hu := (takeK_le hk).2
          have hu1 : ((u : Int) == 0) = false := by have := (takeK_le hk).1; simp; omega
          rw [List.length_drop] at hu
          have e2 : IntKind.i64.wrap ((d : Int) + (u : Int)) = ((d + u : Nat) : Int) := by rw [IntWalk.i64_in _ (by have := hn.out; omega)]; omega
          obtain ⟨du, hdu⟩ : ∃ t, t = d + u := ⟨_, rfl⟩
          rw [← hdu] at e2
          have HDU := Lib.hid hdu
          have h1 : Hid (rs.length + [wr0].length ≤ maxLen) := by rw [Hid, hTI.out.len]; simp [maxLen]; omega
          have h2 : Hid ((rs.length + [wr0].length) * 72 ≤ 140737488355328) := by rw [Hid, hTI.out.len]; simp; omega
          clear hk hdu
          generalize k.byte = by' at *
          go_upto_region 8 with fail
          go_cut [10, 11] (fun s10 s11 wx => s11 = .int .i64 (u : Int) ∧ ∃ g r, s10 = .pointer (some ⟨g, 0, none⟩) ∧ Hid (r.v = v ∧ VBox wr wx g r))
          case first =>
            go_region_with (go_at_call 93; refine (htk _ ?_).mono ?_; (first | (with_reducible exact hb_d wr) | (with_reducible exact hb_ad wr _)); rintro e w3 ⟨hb3, r, hrv, rfl, hrok, hrf⟩; have hb4 : Below wr.heap.size wr w3 := (by first | (with_reducible exact b4_d hb3) | (with_reducible exact b4_ad hb3)); have HR := Lib.hid (And.intro hrv (And.intro hrok hrf)); clear hrv hrok hrf; simp only [Wr.agg]; first | (have hB9 : Blk w3 wr.heap.size 38 #[.int .u64 0, .int .i64 0, .bool false, .slice none 0 0, .slice none 0 0] := (by with_reducible exact blk_1 hb3); have y0 : w3.cell? ⟨wr.heap.size, 0, none⟩ = some (.int .u64 0) := hB9.cell 0; have y1 : w3.cell? ⟨wr.heap.size, 1, none⟩ = some (.int .i64 0) := hB9.cell 1; have y2 : w3.cell? ⟨wr.heap.size, 2, none⟩ = some (.bool false) := hB9.cell 2; have y3 : w3.cell? ⟨wr.heap.size, 3, none⟩ = some (.slice none 0 0) := hB9.cell 3; have y4 : w3.cell? ⟨wr.heap.size, 4, none⟩ = some (.slice none 0 0) := hB9.cell 4; have g0 := hB9.free 0; have g1 := hB9.free 1; have g2 := hB9.free 2; have g3 := hB9.free 3; have g4 := hB9.free 4) | skip)
            all_goals (go_wp2_with fail; go_meet; first | (have h9 := hB9; exact ⟨rfl, wr.heap.size, r, rfl, HR.out.1, VBox.set h9 HR.out.2.1 HR.out.2.2 ⟨Nat.le_refl _, by simp⟩ hb4⟩) | exact ⟨rfl, w3.heap.size, r, rfl, HR.out.1, VBox.new HR.out.2.1 HR.out.2.2 (by first | exact Nat.le_refl _ | simp) hb4⟩)
          case rest =>
            obtain ⟨rfl, g, r, rfl, hVB⟩ := hcut
            have y0 : wc.cell? ⟨g, 0, none⟩ = some (.int .u64 (r.v.n : Int)) := hVB.out.2.blk.cell 0
            have y1 : wc.cell? ⟨g, 1, none⟩ = some (.int .i64 r.v.i) := hVB.out.2.blk.cell 1
            have y2 : wc.cell? ⟨g, 2, none⟩ = some (.bool r.v.f) := hVB.out.2.blk.cell 2
            have y3 : wc.cell? ⟨g, 3, none⟩ = some (.slice r.bA r.bn r.bc) := hVB.out.2.blk.cell 3
            have y4 : wc.cell? ⟨g, 4, none⟩ = some (.slice r.lA r.ln r.lc) := hVB.out.2.blk.cell 4
            have HO := Lib.hid (hTI.out.vo.own.ext hVB.out.2.be)
            go_wp2_with (at_builtin; refine wpList_append_a _ rfl _ _ _ rfl 38 i0 _ 5 72 Try.underlying22 hi hz hz1 hz2 rfl (by decide) Wr.cells_len Wr.cells_one _ rs (by rfl) (HO.out.alloc _) _ (some ⟨wc.heap.size, 0, none⟩) [r] 1 1 (by rfl) rfl (lit_one wc r 38 rfl) h1.out h2.out ?_; intro v' w' hown' hchg hat; obtain ⟨A3, n3, c3', rfl, hn3, hle3, hmx3, hnil3⟩ := hown'.form; have HA := Lib.hid (And.intro hown' (And.intro hchg hat)); clear hown' hchg hat)
            go_roundg (gk - 1)
            case measure => omega
            case rel => exact ⟨j + 1, du, rs ++ [r], A3, n3, c3', by go_num, rfl, rfl, by omega, by omega, by rw [HDU.out]; exact hTI.out.next (Nat.le_refl _) hVB.out.2 hVB.out.1 HD.out hnx.out HA.out.1 HA.out.2.1 HA.out.2.2⟩
      · have ht2 : Hid (takeP sl l = (rs.map Wr.v, d, 0)) := by
          rw [Hid, ht.out, hTI.out.eq, List.drop_of_length_le (by rw [← hmk.out]; omega), takeS]
          simp [outT]
        have b2 : decide (j < m) = false := decide_eq_false hjn
        rw [hm0] at b2
        go_wp2
        refine bodyPost_ret (v := .tuple #[.slice A2 n2 c2, .int .i64 (d : Int), .int .i64 0]) (by simp [results, Try.results78, go_sem]) rfl ?_
        rw [ht2.out]
        exact ⟨hTI.out.be, A2, n2, c2, rs, rfl, rfl, hTI.out.vo⟩
end Go.Proofs.Ytoneechcclndaaa.Wire

namespace Go.Proofs.Ytoneechcclndaaa.Wire
open Go.RowKit Go.ChangeShapes Go.WideShapes Go.ChangeAt
set_option linter.unusedVariables false
set_option linter.unusedSimpArgs false
attribute [local go_sem ↓] Go.wp_at_zero Go.wp_at_succ
open Go.Shelf Go.Proofs.Ytoneechcclndaaa.Word

/-- what Whole leaves -/
def RetWhole (w : World) (x : List WV × Int) (e : Ending) (w' : World) : Prop :=
  Below w.heap.size w w' ∧ ∃ A n c rs, e = .returned (.tuple #[.slice A n c, .int .i64 x.2]) ∧ rs.map Wr.v = x.1 ∧ VOwn w.heap.size w' A n c rs

theorem whole_any (s : ByteArray) (l : List UInt8) (A : Option Addr) (n cap : Nat) (w : World) (hs : s.data.toList.length ≤ 1000000) (hl : BySl w w.heap.size A l) (hn : Hid (n = l.length)) (hc : n ≤ cap) (hm : n ≤ 1000000000000) :
    Calls Try.prog 26 #[.string s, .slice A n cap] w (RetWhole w (wholeP s.data.toList l)) := by
  have ht := fun W (h : BySl W W.heap.size A l) => take_any s l A n cap W hs h hn hc hm
  have hl2 := Lib.hid hl
  have hw : Hid (wholeP s.data.toList l = if (takeP s.data.toList l).2.2 = 0 ∧ (takeP s.data.toList l).2.1 < n then ([], 40) else ((takeP s.data.toList l).1, (takeP s.data.toList l).2.2)) := by rw [hn.out]; rfl
  generalize takeP s.data.toList l = x at *
  generalize wholeP s.data.toList l = y at *
  obtain ⟨vs, u, er⟩ := x
  simp only at hw
  clear hl
  by_cases he : er = 0
  · subst he
    by_cases hu : u < n
    · have hy : Hid (y = ([], 40)) := by rw [Hid, hw.out, if_pos ⟨rfl, hu⟩]
      have d1 : decide (u < n) = true := decide_eq_true hu
      go_enter Try.func26, Try.ntmps26
      go_wp2_with (go_at_call 24; refine (ht _ hl2.out).mono ?_; rintro e w1 ⟨hb, A1, n1, c1, rs, rfl, hrs, hvo⟩)
      refine bodyPost_ret (v := .tuple #[.slice none 0 0, .int .i64 40]) (by simp [results, Try.results26, go_sem]) rfl ⟨hb, none, 0, 0, [], by rw [hy.out], by rw [hy.out]; rfl, VOwn.nil _ _⟩
    · have hy : Hid (y = (vs, 0)) := by rw [Hid, hw.out, if_neg (fun h => hu h.2)]
      have d1 : decide (u < n) = false := decide_eq_false hu
      go_enter Try.func26, Try.ntmps26
      go_wp2_with (go_at_call 24; refine (ht _ hl2.out).mono ?_; rintro e w1 ⟨hb, A1, n1, c1, rs, rfl, hrs, hvo⟩)
      refine bodyPost_ret (v := .tuple #[.slice A1 n1 c1, .int .i64 0]) (by simp [results, Try.results26, go_sem]) rfl ⟨hb, A1, n1, c1, rs, by rw [hy.out], by rw [hy.out]; exact hrs, hvo⟩
  · have hy : Hid (y = (vs, er)) := by rw [Hid, hw.out, if_neg (fun h => he h.1)]
    have d1 : (er == 0) = false := by simpa using he
    go_enter Try.func26, Try.ntmps26
    go_wp2_with (go_at_call 24; refine (ht _ hl2.out).mono ?_; rintro e w1 ⟨hb, A1, n1, c1, rs, rfl, hrs, hvo⟩)
    refine bodyPost_ret (v := .tuple #[.slice A1 n1 c1, .int .i64 er]) (by simp [results, Try.results26, go_sem]) rfl ⟨hb, A1, n1, c1, rs, by rw [hy.out], by rw [hy.out]; exact hrs, hvo⟩
theorem rwhole_any (s : ByteArray) (l : List UInt8) (A : Option Addr) (n cap : Nat) (w : World) (hs : s.data.toList.length ≤ 1000000) (hl : BySl w w.heap.size A l) (hn : Hid (n = l.length)) (hc : n ≤ cap) (hm : n ≤ 1000000000000) :
    Calls Try.prog 62 #[.string s, .slice A n cap] w (RetWhole w (wholeP s.data.toList l)) := by
  have ht := fun W (h : BySl W W.heap.size A l) => rtake_any s l A n cap W hs h hn hc hm
  have hl2 := Lib.hid hl
  have hw : Hid (wholeP s.data.toList l = if (takeP s.data.toList l).2.2 = 0 ∧ (takeP s.data.toList l).2.1 < n then ([], 40) else ((takeP s.data.toList l).1, (takeP s.data.toList l).2.2)) := by rw [hn.out]; rfl
  generalize takeP s.data.toList l = x at *
  generalize wholeP s.data.toList l = y at *
  obtain ⟨vs, u, er⟩ := x
  simp only at hw
  clear hl
  by_cases he : er = 0
  · subst he
    by_cases hu : u < n
    · have hy : Hid (y = ([], 40)) := by rw [Hid, hw.out, if_pos ⟨rfl, hu⟩]
      have d1 : decide (u < n) = true := decide_eq_true hu
      go_enter Try.func62, Try.ntmps62
      go_wp2_with (go_at_call 78; refine (ht _ hl2.out).mono ?_; rintro e w1 ⟨hb, A1, n1, c1, rs, rfl, hrs, hvo⟩)
      refine bodyPost_ret (v := .tuple #[.slice none 0 0, .int .i64 40]) (by simp [results, Try.results62, go_sem]) rfl ⟨hb, none, 0, 0, [], by rw [hy.out], by rw [hy.out]; rfl, VOwn.nil _ _⟩
    · have hy : Hid (y = (vs, 0)) := by rw [Hid, hw.out, if_neg (fun h => hu h.2)]
      have d1 : decide (u < n) = false := decide_eq_false hu
      go_enter Try.func62, Try.ntmps62
      go_wp2_with (go_at_call 78; refine (ht _ hl2.out).mono ?_; rintro e w1 ⟨hb, A1, n1, c1, rs, rfl, hrs, hvo⟩)
      refine bodyPost_ret (v := .tuple #[.slice A1 n1 c1, .int .i64 0]) (by simp [results, Try.results62, go_sem]) rfl ⟨hb, A1, n1, c1, rs, by rw [hy.out], by rw [hy.out]; exact hrs, hvo⟩
  · have hy : Hid (y = (vs, er)) := by rw [Hid, hw.out, if_neg (fun h => he h.1)]
    have d1 : (er == 0) = false := by simpa using he
    go_enter Try.func62, Try.ntmps62
    go_wp2_with (go_at_call 78; refine (ht _ hl2.out).mono ?_; rintro e w1 ⟨hb, A1, n1, c1, rs, rfl, hrs, hvo⟩)
    refine bodyPost_ret (v := .tuple #[.slice A1 n1 c1, .int .i64 er]) (by simp [results, Try.results62, go_sem]) rfl ⟨hb, A1, n1, c1, rs, by rw [hy.out], by rw [hy.out]; exact hrs, hvo⟩

/-- it may be read -/
structure Wr.Rd (w : World) (r : Wr) : Prop where
  b : BySl w w.heap.size r.bA r.v.b
  bn : r.bn = r.v.b.length
  l : Sl w w.heap.size 1 encN r.lA r.v.l
  ln : r.ln = r.v.l.length
  wf : r.v.Wf
theorem Wr.Ok.rd {w : World} {r : Wr} (h : r.Ok w) : r.Rd w := ⟨h.b.sl encB_len, h.b.len, h.l.sl encN_len, h.l.len, h.wf⟩
theorem Wr.Rd.ext {w w' : World} {r : Wr} (h : r.Rd w) (hb : Below w.heap.size w w') : r.Rd w' := ⟨h.b.ext hb, h.bn, h.l.ext hb, h.ln, h.wf⟩

def eqN : List Nat → List Nat → Bool
  | [], [] => true
  | a :: l, b :: m => (a == b) && eqN l m
  | _, _ => false
theorem eqN_iff : ∀ l m : List Nat, eqN l m = true ↔ l = m
  | [], [] => by simp [eqN]
  | a :: l, b :: m => by simp only [eqN, Bool.and_eq_true, beq_iff_eq, eqN_iff l m, List.cons.injEq]
  | [], b :: m => by simp [eqN]
  | a :: l, [] => by simp [eqN]
theorem eqN_len {l m : List Nat} (h : l.length ≠ m.length) : eqN l m = false := by
  cases he : eqN l m with
  | false => rfl
  | true => exact absurd (congrArg List.length ((eqN_iff l m).1 he)) h
def eqV (a b : WV) : Bool := a.n == b.n && a.i == b.i && a.f == b.f && Bytes.eqB a.b b.b && eqN a.l b.l
theorem eqV_iff (a b : WV) : eqV a b = true ↔ a = b := by
  obtain ⟨n, i, f, x, l⟩ := a
  obtain ⟨n', i', f', x', l'⟩ := b
  simp only [eqV, Bool.and_eq_true, beq_iff_eq, Bytes.eqB_iff, eqN_iff, WV.mk.injEq]
  constructor
  · rintro ⟨⟨⟨⟨h1, h2⟩, h3⟩, h4⟩, h5⟩; exact ⟨h1, h2, h3, h4, h5⟩
  · rintro ⟨h1, h2, h3, h4, h5⟩; exact ⟨⟨⟨⟨h1, h2⟩, h3⟩, h4⟩, h5⟩
theorem encN_at {w : World} {B : Nat} {A : Option Addr} {l : List Nat} (h : Sl w B 1 encN A l) {k x : Nat} (hx : l[k]? = some x) :
    ∃ b off, A = some ⟨b, off, none⟩ ∧ b < B ∧ w.cell? ⟨b, off + k, none⟩ = some (.int .u64 (x : Int)) := by
  obtain ⟨b, off, hA, hb, hc⟩ := h.at_ hx
  have := hc 0 _ rfl
  rw [Nat.mul_one] at this
  exact ⟨b, off, hA, hb, this⟩
end Go.Proofs.Ytoneechcclndaaa.Wire
