/- wire: the program's integer, flag, some. -/
import Derived.Test.YtiommdidkhohgaaWireA
import Derived.Outline
import Derived.BigQuiet
import Derived.Deep.QuietTactic
import Derived.Deep.RegionWith
import Derived.Deep.RegionHeld3
import Derived.Deep.DrawnRows
import Derived.Deep.LoopGhost
import Derived.Deep.DeepCutAuto
import Derived.Laws.EntriesVeiled
namespace Go.Proofs.Ytiommdidkhohgaa.Wire
open Go.RowKit Go.ChangeShapes Go.WideShapes Go.ChangeAt
set_option linter.unusedVariables false
set_option linter.unusedSimpArgs false
attribute [local go_sem ↓] Go.wp_at_zero Go.wp_at_succ
open Go.Shelf Go.Proofs.Ytiommdidkhohgaa.Word

theorem integer_any (l : List UInt8) (A : Option Addr) (n cap : Nat) (w : World) (hl : BySl w w.heap.size A l) (hn : Hid (n = l.length)) (hc : n ≤ cap) (hm : n ≤ 1000000000000) :
    Calls Try.prog 72 #[.slice A n cap] w (RetTk w (takeK .int l)) := by
  have hB0 : Below w.heap.size w (w.alloc (.cells zV 34)) := (by repeat (first | exact Below.refl _ _ | assumption | refine Below.drew ?_ | refine bdrewN ?_ _ | refine Below.alloc ?_ (by simp; try omega) _ | refine Below.setCell ?_ (by simp; try omega) _))
  have HL := Lib.hid (hl.ext hB0)
  have HZ := Lib.hid (And.intro (Blk.new w 34 zV) hB0)
  clear hl hB0
  have hg0 : getAt l 0 = getW l := getAt_zero l
  cases hg : getW l with
  | none =>
    have ht : Hid (takeK .int l = none) := by unfold Hid takeK; rw [hg]; rfl
    have e0 : getV (getAt l 0) = .tuple #[.int .u64 0, .int .i64 0, .bool false] := by rw [hg0, hg]; rfl
    have hU := fun w => unfold_any 0 (by decide) w
    have u0 : unfoldZ 0 = 0 := by decide
    rw [u0] at hU
    clear hg0 hg
    go_enter Try.func72, Try.ntmps72
    go_wp2_with (first | (go_at_call 82; refine (get_any l A n cap 0 _ HL.out hn hc hm).mono ?_; rintro e w1 ⟨rfl, hb⟩; rw [e0]; have HB : Hid (Blk w1 w.heap.size 34 zV ∧ Below w.heap.size w w1) := ⟨HZ.out.1.ext hb, ext_under HZ.out.2 (Nat.le_refl _) hb⟩; clear hb; have c0 : w1.cell? ⟨w.heap.size, 0, none⟩ = some (.int .u64 0) := HB.out.1.cell 0; have c1 : w1.cell? ⟨w.heap.size, 1, none⟩ = some (.int .i64 0) := HB.out.1.cell 1; have c2 : w1.cell? ⟨w.heap.size, 2, none⟩ = some (.bool false) := HB.out.1.cell 2; have c3 : w1.cell? ⟨w.heap.size, 3, none⟩ = some (.slice none 0 0) := HB.out.1.cell 3; have c4 : w1.cell? ⟨w.heap.size, 4, none⟩ = some (.slice none 0 0) := HB.out.1.cell 4; have f0 := HB.out.1.free 0; have f1 := HB.out.1.free 1; have f2 := HB.out.1.free 2; have f3 := HB.out.1.free 3; have f4 := HB.out.1.free 4) | (go_at_call 83; refine (hU _).mono ?_; rintro e w' ⟨rfl, rfl⟩))
    have hF := blk_five (HB.out.1.set_ 1 (.int .i64 0)) (.int .u64 0) (.int .i64 0) (.bool false) (.slice none 0 0) (.slice none 0 0); have q0 := hF.cell 0; have q1 := hF.cell 1; have q2 := hF.cell 2; have q3 := hF.cell 3; have q4 := hF.cell 4; clear hF
    refine bodyPost_ret (v := .tuple #[wr0.agg, .int .i64 0, .bool false]) ?_ rfl ⟨below_five (HB.out.2.setCell (Nat.le_refl _) _) (Nat.le_refl _) _ _ _ _ _, by rw [ht.out]⟩
    simp [results, Try.results72, go_sem, q0, q1, q2, q3, q4, wr0_agg]
  | some x =>
    obtain ⟨v, u⟩ := x
    have ht : Hid (takeK .int l = some ({ wv0 with i := unfoldZ v }, u)) := by unfold Hid takeK; rw [hg]; rfl
    have e0 : getV (getAt l 0) = .tuple #[.int .u64 (v : Int), .int .i64 (u : Int), .bool true] := by rw [hg0, hg]; rfl
    have hv := Lib.hid (get_some hg).1
    have hbd := Lib.hid (unfold_bd hv.out)
    have hU := fun w => unfold_any v hv.out w
    obtain ⟨z, hz⟩ : ∃ z, z = unfoldZ v := ⟨_, rfl⟩
    rw [← hz] at hU ht hbd
    clear hg0 hg hz
    go_enter Try.func72, Try.ntmps72
    go_wp2_with (first | (go_at_call 82; refine (get_any l A n cap 0 _ HL.out hn hc hm).mono ?_; rintro e w1 ⟨rfl, hb⟩; rw [e0]; have HB : Hid (Blk w1 w.heap.size 34 zV ∧ Below w.heap.size w w1) := ⟨HZ.out.1.ext hb, ext_under HZ.out.2 (Nat.le_refl _) hb⟩; clear hb; have c0 : w1.cell? ⟨w.heap.size, 0, none⟩ = some (.int .u64 0) := HB.out.1.cell 0; have c1 : w1.cell? ⟨w.heap.size, 1, none⟩ = some (.int .i64 0) := HB.out.1.cell 1; have c2 : w1.cell? ⟨w.heap.size, 2, none⟩ = some (.bool false) := HB.out.1.cell 2; have c3 : w1.cell? ⟨w.heap.size, 3, none⟩ = some (.slice none 0 0) := HB.out.1.cell 3; have c4 : w1.cell? ⟨w.heap.size, 4, none⟩ = some (.slice none 0 0) := HB.out.1.cell 4; have f0 := HB.out.1.free 0; have f1 := HB.out.1.free 1; have f2 := HB.out.1.free 2; have f3 := HB.out.1.free 3; have f4 := HB.out.1.free 4) | (go_at_call 83; refine (hU _).mono ?_; rintro e w' ⟨rfl, rfl⟩))
    have hF := blk_five (HB.out.1.set_ 1 (.int .i64 z)) (.int .u64 0) (.int .i64 z) (.bool false) (.slice none 0 0) (.slice none 0 0); have q0 := hF.cell 0; have q1 := hF.cell 1; have q2 := hF.cell 2; have q3 := hF.cell 3; have q4 := hF.cell 4; clear hF
    refine bodyPost_ret (v := .tuple #[(⟨{ wv0 with i := z }, none, 0, 0, none, 0, 0⟩ : Wr).agg, .int .i64 (u : Int), .bool true]) ?_ rfl ⟨below_five (HB.out.2.setCell (Nat.le_refl _) _) (Nat.le_refl _) _ _ _ _ _, by
      rw [ht.out]
      exact ⟨⟨{ wv0 with i := z }, none, 0, 0, none, 0, 0⟩, rfl, rfl, Wr.Ok.bare _ _ rfl rfl ⟨wv0_wf.1, hbd.out.1, hbd.out.2, wv0_wf.2.2.2⟩, Wr.From.bare _ _⟩⟩
    simp [results, Try.results72, go_sem, q0, q1, q2, q3, q4, Wr.agg, wv0]

set_option maxHeartbeats 2000000 in
theorem flag_any (l : List UInt8) (A : Option Addr) (n cap : Nat) (w : World) (hl : BySl w w.heap.size A l) (hn : Hid (n = l.length)) (hm : n ≤ 1000000000000) :
    Calls Try.prog 74 #[.slice A n cap] w (RetTk w (takeK .flag l)) := by
  cases l with
  | nil =>
    have hn0 : n = 0 := hn.out
    subst hn0
    have ht : Hid (takeK .flag [] = none) := rfl
    clear hl
    go_enter Try.func74, Try.ntmps74
    go_wp2
    refine bodyPost_ret (v := .tuple #[wr0.agg, .int .i64 0, .bool false]) ?_ rfl ⟨(by repeat (first | exact Below.refl _ _ | assumption | refine Below.drew ?_ | refine bdrewN ?_ _ | refine Below.alloc ?_ (by simp; try omega) _ | refine Below.setCell ?_ (by simp; try omega) _)), by rw [ht.out]⟩
    simp [results, Try.results74, go_sem, wr0_agg]
  | cons d l =>
    obtain ⟨bb, off, rfl, hbb, c0⟩ := BySl.at_ hl (k := 0) (b := d) rfl
    have c9 : (w.alloc (.cells zV 34)).cell? ⟨bb, off, none⟩ = some (.int .u8 (d.toNat : Int)) := (World.cell?_alloc_lt w _ ⟨bb, off, none⟩ hbb).trans c0
    unfold zV at c9
    have c8 : bb ≠ w.heap.size := by omega
    have n0 : ((n : Int) == 0) = false := by have := hn.out; rw [List.length_cons] at this; simp; omega
    have n1 : (0 : Int) < (n : Int) := by have := hn.out; rw [List.length_cons] at this; omega
    clear hl c0
    by_cases hd : d.toNat ≤ 1
    · have ht : Hid (takeK .flag (d :: l) = some ({ wv0 with f := d.toNat == 1 }, 1)) := by unfold Hid takeK; simp only; rw [if_pos hd]
      have d1 : decide ((1 : Int) < (d.toNat : Int)) = false := decide_eq_false (by omega)
      have d2 : ((d.toNat : Int) == 1) = (d.toNat == 1) := by rw [Bool.eq_iff_iff]; simp; omega
      obtain ⟨q, hq⟩ : ∃ q, (d.toNat == 1) = q := ⟨_, rfl⟩
      rw [hq] at d2 ht
      clear hq
      go_enter Try.func74, Try.ntmps74
      go_wp2
      refine bodyPost_ret (v := .tuple #[(⟨{ wv0 with f := q }, none, 0, 0, none, 0, 0⟩ : Wr).agg, .int .i64 1, .bool true]) ?_ rfl ⟨(by repeat (first | exact Below.refl _ _ | assumption | refine Below.drew ?_ | refine bdrewN ?_ _ | refine Below.alloc ?_ (by simp; try omega) _ | refine Below.setCell ?_ (by simp; try omega) _)), by
        rw [ht.out]
        exact ⟨⟨{ wv0 with f := q }, none, 0, 0, none, 0, 0⟩, rfl, rfl, Wr.Ok.bare _ _ rfl rfl wv0_wf, Wr.From.bare _ _⟩⟩
      simp [results, Try.results74, go_sem, Wr.agg, wv0]
    · have ht : Hid (takeK .flag (d :: l) = none) := by unfold Hid takeK; simp only; rw [if_neg hd]
      have d1 : decide ((1 : Int) < (d.toNat : Int)) = true := decide_eq_true (by omega)
      go_enter Try.func74, Try.ntmps74
      go_wp2
      refine bodyPost_ret (v := .tuple #[wr0.agg, .int .i64 0, .bool false]) ?_ rfl ⟨(by repeat (first | exact Below.refl _ _ | assumption | refine Below.drew ?_ | refine bdrewN ?_ _ | refine Below.alloc ?_ (by simp; try omega) _ | refine Below.setCell ?_ (by simp; try omega) _)), by rw [ht.out]⟩
      simp [results, Try.results74, go_sem, wr0_agg]
end Go.Proofs.Ytiommdidkhohgaa.Wire
