/- wire: the document's take (windowpaneref04), but for rows of numbers. -/
import Derived.Test.YtiommdidkhohgaaWireG
import Derived.Outline
import Derived.BigQuiet
import Derived.Deep.QuietTactic
import Derived.Deep.RegionWith
import Derived.Deep.RegionHeld3
import Derived.Deep.DrawnRows
import Derived.Deep.LoopGhost
import Derived.Deep.DeepCutAuto
import Derived.Laws.EntriesVeiled
namespace Go.Proofs.Ytiommdidkhohgaa.Wire
open Go.RowKit Go.ChangeShapes Go.WideShapes Go.ChangeAt
set_option linter.unusedVariables false
set_option linter.unusedSimpArgs false
attribute [local go_sem ↓] Go.wp_at_zero Go.wp_at_succ
open Go.Shelf Go.Proofs.Ytiommdidkhohgaa.Word

/-- what the document's take leaves -/
def RetRk (w : World) (x : Option (WV × Nat)) (e : Ending) (w' : World) : Prop :=
  Below w.heap.size w w' ∧ match x with
    | none => e = .returned (.tuple #[wr0.agg, .int .i64 0])
    | some (v, u) => ∃ r : Wr, r.v = v ∧ e = .returned (.tuple #[r.agg, .int .i64 (u : Int)]) ∧ r.Ok w' ∧ r.From w.heap.size

theorem runfold_any (n : Nat) (hn : n < p64) (w : World) : Calls Try.prog 62 #[.int .u64 (n : Int)] w fun e w' => e = .returned (.int .i64 (unfoldZ n)) ∧ w = w' := by
  unfold p64 at hn
  obtain ⟨k, hk⟩ : ∃ k, k = n / 2 := ⟨_, rfl⟩
  have e1 : Int.tdiv (n : Int) 2 = (k : Int) := by rw [hk]; exact (Int.ofNat_tdiv _ _).symm
  have e0 : IntKind.u64.wrap (k : Int) = (k : Int) := IntWalk.u64_in _ (by omega)
  have e3 : IntKind.i64.wrap (k : Int) = (k : Int) := IntWalk.i64_in _ (by omega)
  have e4 : IntKind.i64.wrap (-1 - (k : Int)) = -1 - (k : Int) := IntWalk.i64_in _ (by omega)
  by_cases h : n % 2 = 0
  · have hF : Hid (unfoldZ n = (k : Int)) := by unfold Hid unfoldZ; rw [if_pos h, hk]
    have e2 : Int.tmod (n : Int) 2 = 0 := by
      have : Int.tmod (n : Int) 2 = ((n % 2 : Nat) : Int) := (Int.ofNat_tmod _ _).symm
      rw [this, h]; rfl
    clear hk hn h
    go_enter Try.func62, Try.ntmps62
    go_wp2
    go_ret
    exact ⟨ret_k hF.out.symm, rfl⟩
  · have hF : Hid (unfoldZ n = -1 - (k : Int)) := by unfold Hid unfoldZ; rw [if_neg h, hk]
    have e2 : Int.tmod (n : Int) 2 = 1 := by
      have : Int.tmod (n : Int) 2 = ((n % 2 : Nat) : Int) := (Int.ofNat_tmod _ _).symm
      rw [this]; omega
    clear hk hn h
    go_enter Try.func62, Try.ntmps62
    go_wp2
    go_ret
    exact ⟨ret_k hF.out.symm, rfl⟩

theorem two_boxes (w : World) : Blk ((w.alloc (.cells zV 34)).alloc (.cells zV 34)) w.heap.size 34 zV ∧ Blk ((w.alloc (.cells zV 34)).alloc (.cells zV 34)) (w.heap.size + 1) 34 zV ∧ Below w.heap.size w ((w.alloc (.cells zV 34)).alloc (.cells zV 34)) := by
  refine ⟨(Blk.new _ _ _).alloc _, ?_, (by repeat (first | exact Below.refl _ _ | assumption | refine Below.drew ?_ | refine bdrewN ?_ _ | refine Below.alloc ?_ (by simp; try omega) _ | refine Below.setCell ?_ (by simp; try omega) _))⟩
  have := Blk.new (w.alloc (.cells zV 34)) 34 zV
  rwa [World.size_alloc] at this

set_option maxHeartbeats 2000000 in
theorem rnat_any (l : List UInt8) (A : Option Addr) (n cap : Nat) (w : World) (hl : BySl w w.heap.size A l) (hn : Hid (n = l.length)) (hc : n ≤ cap) (hm : n ≤ 1000000000000) :
    Calls Try.prog 42 #[.int .u8 110, .slice A n cap] w (RetRk w (takeK .nat l)) := by
  have HZ := Lib.hid (two_boxes w)
  have HL := Lib.hid (hl.ext HZ.out.2.2)
  have hg0 : getAt l 0 = getW l := getAt_zero l
  clear hl
  cases hg : getW l with
  | none =>
    have ht : Hid (takeK .nat l = none) := by unfold Hid takeK; rw [hg]; rfl
    have e0 : getV (getAt l 0) = .tuple #[.int .u64 0, .int .i64 0, .bool false] := by rw [hg0, hg]; rfl
    clear hg0 hg
    go_enter Try.func42, Try.ntmps42
    go_wp2_with (go_at_call 61; refine (rget_any l A n cap 0 _ HL.out hn hc hm).mono ?_; rintro e w1 ⟨rfl, hb⟩; rw [e0]; have HB : Hid (Blk w1 w.heap.size 34 zV ∧ Blk w1 (w.heap.size + 1) 34 zV ∧ Below w.heap.size w w1) := ⟨HZ.out.1.ext hb, HZ.out.2.1.ext hb, ext_under HZ.out.2.2 (Nat.le_refl _) hb⟩; clear hb; have c0 : w1.cell? ⟨w.heap.size, 0, none⟩ = some (.int .u64 0) := HB.out.1.cell 0; have c1 : w1.cell? ⟨w.heap.size, 1, none⟩ = some (.int .i64 0) := HB.out.1.cell 1; have c2 : w1.cell? ⟨w.heap.size, 2, none⟩ = some (.bool false) := HB.out.1.cell 2; have c3 : w1.cell? ⟨w.heap.size, 3, none⟩ = some (.slice none 0 0) := HB.out.1.cell 3; have c4 : w1.cell? ⟨w.heap.size, 4, none⟩ = some (.slice none 0 0) := HB.out.1.cell 4; have f0 := HB.out.1.free 0; have f1 := HB.out.1.free 1; have f2 := HB.out.1.free 2; have f3 := HB.out.1.free 3; have f4 := HB.out.1.free 4; have bx0 : w1.cell? ⟨w.heap.size + 1, 0, none⟩ = some (.int .u64 0) := HB.out.2.1.cell 0; have bx1 : w1.cell? ⟨w.heap.size + 1, 1, none⟩ = some (.int .i64 0) := HB.out.2.1.cell 1; have bx2 : w1.cell? ⟨w.heap.size + 1, 2, none⟩ = some (.bool false) := HB.out.2.1.cell 2; have bx3 : w1.cell? ⟨w.heap.size + 1, 3, none⟩ = some (.slice none 0 0) := HB.out.2.1.cell 3; have bx4 : w1.cell? ⟨w.heap.size + 1, 4, none⟩ = some (.slice none 0 0) := HB.out.2.1.cell 4; have bf0 := HB.out.2.1.free 0; have bf1 := HB.out.2.1.free 1; have bf2 := HB.out.2.1.free 2; have bf3 := HB.out.2.1.free 3; have bf4 := HB.out.2.1.free 4)
    have hF := blk_five (HB.out.1) (.int .u64 0) (.int .i64 0) (.bool false) (.slice none 0 0) (.slice none 0 0); have q0 := hF.cell 0; have q1 := hF.cell 1; have q2 := hF.cell 2; have q3 := hF.cell 3; have q4 := hF.cell 4; clear hF
    refine bodyPost_ret (v := .tuple #[wr0.agg, .int .i64 0]) ?_ rfl ⟨below_five HB.out.2.2 (Nat.le_refl _) _ _ _ _ _, by rw [ht.out]⟩
    simp [results, Try.results42, go_sem, q0, q1, q2, q3, q4, wr0_agg]
  | some x =>
    obtain ⟨v, u⟩ := x
    have ht : Hid (takeK .nat l = some ({ wv0 with n := v }, u)) := by unfold Hid takeK; rw [hg]; rfl
    have e0 : getV (getAt l 0) = .tuple #[.int .u64 (v : Int), .int .i64 (u : Int), .bool true] := by rw [hg0, hg]; rfl
    have hv := Lib.hid (get_some hg).1
    clear hg0 hg
    go_enter Try.func42, Try.ntmps42
    go_wp2_with (go_at_call 61; refine (rget_any l A n cap 0 _ HL.out hn hc hm).mono ?_; rintro e w1 ⟨rfl, hb⟩; rw [e0]; have HB : Hid (Blk w1 w.heap.size 34 zV ∧ Blk w1 (w.heap.size + 1) 34 zV ∧ Below w.heap.size w w1) := ⟨HZ.out.1.ext hb, HZ.out.2.1.ext hb, ext_under HZ.out.2.2 (Nat.le_refl _) hb⟩; clear hb; have c0 : w1.cell? ⟨w.heap.size, 0, none⟩ = some (.int .u64 0) := HB.out.1.cell 0; have c1 : w1.cell? ⟨w.heap.size, 1, none⟩ = some (.int .i64 0) := HB.out.1.cell 1; have c2 : w1.cell? ⟨w.heap.size, 2, none⟩ = some (.bool false) := HB.out.1.cell 2; have c3 : w1.cell? ⟨w.heap.size, 3, none⟩ = some (.slice none 0 0) := HB.out.1.cell 3; have c4 : w1.cell? ⟨w.heap.size, 4, none⟩ = some (.slice none 0 0) := HB.out.1.cell 4; have f0 := HB.out.1.free 0; have f1 := HB.out.1.free 1; have f2 := HB.out.1.free 2; have f3 := HB.out.1.free 3; have f4 := HB.out.1.free 4; have bx0 : w1.cell? ⟨w.heap.size + 1, 0, none⟩ = some (.int .u64 0) := HB.out.2.1.cell 0; have bx1 : w1.cell? ⟨w.heap.size + 1, 1, none⟩ = some (.int .i64 0) := HB.out.2.1.cell 1; have bx2 : w1.cell? ⟨w.heap.size + 1, 2, none⟩ = some (.bool false) := HB.out.2.1.cell 2; have bx3 : w1.cell? ⟨w.heap.size + 1, 3, none⟩ = some (.slice none 0 0) := HB.out.2.1.cell 3; have bx4 : w1.cell? ⟨w.heap.size + 1, 4, none⟩ = some (.slice none 0 0) := HB.out.2.1.cell 4; have bf0 := HB.out.2.1.free 0; have bf1 := HB.out.2.1.free 1; have bf2 := HB.out.2.1.free 2; have bf3 := HB.out.2.1.free 3; have bf4 := HB.out.2.1.free 4)
    have hF := blk_five (HB.out.1.far (p := ⟨w.heap.size + 1, 0, none⟩) (by simp) (.int .u64 (v : Int))) (.int .u64 (v : Int)) (.int .i64 0) (.bool false) (.slice none 0 0) (.slice none 0 0); have q0 := hF.cell 0; have q1 := hF.cell 1; have q2 := hF.cell 2; have q3 := hF.cell 3; have q4 := hF.cell 4; clear hF
    refine bodyPost_ret (v := .tuple #[(⟨{ wv0 with n := v }, none, 0, 0, none, 0, 0⟩ : Wr).agg, .int .i64 (u : Int)]) ?_ rfl ⟨below_five (HB.out.2.2.setCell (p := ⟨w.heap.size + 1, 0, none⟩) (Nat.le_succ _) _) (Nat.le_refl _) _ _ _ _ _, by
      rw [ht.out]
      exact ⟨⟨{ wv0 with n := v }, none, 0, 0, none, 0, 0⟩, rfl, rfl, Wr.Ok.bare _ _ rfl rfl ⟨hv.out, wv0_wf.2⟩, Wr.From.bare _ _⟩⟩
    simp [results, Try.results42, go_sem, q0, q1, q2, q3, q4, Wr.agg, wv0]

set_option maxHeartbeats 2000000 in
theorem rint_any (l : List UInt8) (A : Option Addr) (n cap : Nat) (w : World) (hl : BySl w w.heap.size A l) (hn : Hid (n = l.length)) (hc : n ≤ cap) (hm : n ≤ 1000000000000) :
    Calls Try.prog 42 #[.int .u8 105, .slice A n cap] w (RetRk w (takeK .int l)) := by
  have HZ := Lib.hid (two_boxes w)
  have HL := Lib.hid (hl.ext HZ.out.2.2)
  have hg0 : getAt l 0 = getW l := getAt_zero l
  clear hl
  cases hg : getW l with
  | none =>
    have ht : Hid (takeK .int l = none) := by unfold Hid takeK; rw [hg]; rfl
    have e0 : getV (getAt l 0) = .tuple #[.int .u64 0, .int .i64 0, .bool false] := by rw [hg0, hg]; rfl
    clear hg0 hg
    go_enter Try.func42, Try.ntmps42
    go_wp2_with (go_at_call 61; refine (rget_any l A n cap 0 _ HL.out hn hc hm).mono ?_; rintro e w1 ⟨rfl, hb⟩; rw [e0]; have HB : Hid (Blk w1 w.heap.size 34 zV ∧ Blk w1 (w.heap.size + 1) 34 zV ∧ Below w.heap.size w w1) := ⟨HZ.out.1.ext hb, HZ.out.2.1.ext hb, ext_under HZ.out.2.2 (Nat.le_refl _) hb⟩; clear hb; have c0 : w1.cell? ⟨w.heap.size, 0, none⟩ = some (.int .u64 0) := HB.out.1.cell 0; have c1 : w1.cell? ⟨w.heap.size, 1, none⟩ = some (.int .i64 0) := HB.out.1.cell 1; have c2 : w1.cell? ⟨w.heap.size, 2, none⟩ = some (.bool false) := HB.out.1.cell 2; have c3 : w1.cell? ⟨w.heap.size, 3, none⟩ = some (.slice none 0 0) := HB.out.1.cell 3; have c4 : w1.cell? ⟨w.heap.size, 4, none⟩ = some (.slice none 0 0) := HB.out.1.cell 4; have f0 := HB.out.1.free 0; have f1 := HB.out.1.free 1; have f2 := HB.out.1.free 2; have f3 := HB.out.1.free 3; have f4 := HB.out.1.free 4; have bx0 : w1.cell? ⟨w.heap.size + 1, 0, none⟩ = some (.int .u64 0) := HB.out.2.1.cell 0; have bx1 : w1.cell? ⟨w.heap.size + 1, 1, none⟩ = some (.int .i64 0) := HB.out.2.1.cell 1; have bx2 : w1.cell? ⟨w.heap.size + 1, 2, none⟩ = some (.bool false) := HB.out.2.1.cell 2; have bx3 : w1.cell? ⟨w.heap.size + 1, 3, none⟩ = some (.slice none 0 0) := HB.out.2.1.cell 3; have bx4 : w1.cell? ⟨w.heap.size + 1, 4, none⟩ = some (.slice none 0 0) := HB.out.2.1.cell 4; have bf0 := HB.out.2.1.free 0; have bf1 := HB.out.2.1.free 1; have bf2 := HB.out.2.1.free 2; have bf3 := HB.out.2.1.free 3; have bf4 := HB.out.2.1.free 4)
    have hF := blk_five (HB.out.1) (.int .u64 0) (.int .i64 0) (.bool false) (.slice none 0 0) (.slice none 0 0); have q0 := hF.cell 0; have q1 := hF.cell 1; have q2 := hF.cell 2; have q3 := hF.cell 3; have q4 := hF.cell 4; clear hF
    refine bodyPost_ret (v := .tuple #[wr0.agg, .int .i64 0]) ?_ rfl ⟨below_five HB.out.2.2 (Nat.le_refl _) _ _ _ _ _, by rw [ht.out]⟩
    simp [results, Try.results42, go_sem, q0, q1, q2, q3, q4, wr0_agg]
  | some x =>
    obtain ⟨v, u⟩ := x
    have ht : Hid (takeK .int l = some ({ wv0 with i := unfoldZ v }, u)) := by unfold Hid takeK; rw [hg]; rfl
    have e0 : getV (getAt l 0) = .tuple #[.int .u64 (v : Int), .int .i64 (u : Int), .bool true] := by rw [hg0, hg]; rfl
    have hv := Lib.hid (get_some hg).1
    have hbd := Lib.hid (unfold_bd hv.out)
    have hU := fun w => runfold_any v hv.out w
    obtain ⟨z, hz⟩ : ∃ z, z = unfoldZ v := ⟨_, rfl⟩
    rw [← hz] at hU ht hbd
    clear hg0 hg hz
    go_enter Try.func42, Try.ntmps42
    go_wp2_with (first | (go_at_call 61; refine (rget_any l A n cap 0 _ HL.out hn hc hm).mono ?_; rintro e w1 ⟨rfl, hb⟩; rw [e0]; have HB : Hid (Blk w1 w.heap.size 34 zV ∧ Blk w1 (w.heap.size + 1) 34 zV ∧ Below w.heap.size w w1) := ⟨HZ.out.1.ext hb, HZ.out.2.1.ext hb, ext_under HZ.out.2.2 (Nat.le_refl _) hb⟩; clear hb; have c0 : w1.cell? ⟨w.heap.size, 0, none⟩ = some (.int .u64 0) := HB.out.1.cell 0; have c1 : w1.cell? ⟨w.heap.size, 1, none⟩ = some (.int .i64 0) := HB.out.1.cell 1; have c2 : w1.cell? ⟨w.heap.size, 2, none⟩ = some (.bool false) := HB.out.1.cell 2; have c3 : w1.cell? ⟨w.heap.size, 3, none⟩ = some (.slice none 0 0) := HB.out.1.cell 3; have c4 : w1.cell? ⟨w.heap.size, 4, none⟩ = some (.slice none 0 0) := HB.out.1.cell 4; have f0 := HB.out.1.free 0; have f1 := HB.out.1.free 1; have f2 := HB.out.1.free 2; have f3 := HB.out.1.free 3; have f4 := HB.out.1.free 4; have bx0 : w1.cell? ⟨w.heap.size + 1, 0, none⟩ = some (.int .u64 0) := HB.out.2.1.cell 0; have bx1 : w1.cell? ⟨w.heap.size + 1, 1, none⟩ = some (.int .i64 0) := HB.out.2.1.cell 1; have bx2 : w1.cell? ⟨w.heap.size + 1, 2, none⟩ = some (.bool false) := HB.out.2.1.cell 2; have bx3 : w1.cell? ⟨w.heap.size + 1, 3, none⟩ = some (.slice none 0 0) := HB.out.2.1.cell 3; have bx4 : w1.cell? ⟨w.heap.size + 1, 4, none⟩ = some (.slice none 0 0) := HB.out.2.1.cell 4; have bf0 := HB.out.2.1.free 0; have bf1 := HB.out.2.1.free 1; have bf2 := HB.out.2.1.free 2; have bf3 := HB.out.2.1.free 3; have bf4 := HB.out.2.1.free 4) | (go_at_call 62; refine (hU _).mono ?_; rintro e w' ⟨rfl, rfl⟩))
    have hF := blk_five (HB.out.1.far (p := ⟨w.heap.size + 1, 1, none⟩) (by simp) (.int .i64 z)) (.int .u64 0) (.int .i64 z) (.bool false) (.slice none 0 0) (.slice none 0 0); have q0 := hF.cell 0; have q1 := hF.cell 1; have q2 := hF.cell 2; have q3 := hF.cell 3; have q4 := hF.cell 4; clear hF
    refine bodyPost_ret (v := .tuple #[(⟨{ wv0 with i := z }, none, 0, 0, none, 0, 0⟩ : Wr).agg, .int .i64 (u : Int)]) ?_ rfl ⟨below_five (HB.out.2.2.setCell (p := ⟨w.heap.size + 1, 1, none⟩) (Nat.le_succ _) _) (Nat.le_refl _) _ _ _ _ _, by
      rw [ht.out]
      exact ⟨⟨{ wv0 with i := z }, none, 0, 0, none, 0, 0⟩, rfl, rfl, Wr.Ok.bare _ _ rfl rfl ⟨wv0_wf.1, hbd.out.1, hbd.out.2, wv0_wf.2.2.2⟩, Wr.From.bare _ _⟩⟩
    simp [results, Try.results42, go_sem, q0, q1, q2, q3, q4, Wr.agg, wv0]

set_option maxHeartbeats 4000000 in
theorem rflag_any (l : List UInt8) (A : Option Addr) (n cap : Nat) (w : World) (hl : BySl w w.heap.size A l) (hn : Hid (n = l.length)) (hm : n ≤ 1000000000000) :
    Calls Try.prog 42 #[.int .u8 102, .slice A n cap] w (RetRk w (takeK .flag l)) := by
  cases l with
  | nil =>
    have hn0 : n = 0 := hn.out
    subst hn0
    have ht : Hid (takeK .flag [] = none) := rfl
    clear hl
    go_enter Try.func42, Try.ntmps42
    go_wp2
    refine bodyPost_ret (v := .tuple #[wr0.agg, .int .i64 0]) ?_ rfl ⟨(by repeat (first | exact Below.refl _ _ | assumption | refine Below.drew ?_ | refine bdrewN ?_ _ | refine Below.alloc ?_ (by simp; try omega) _ | refine Below.setCell ?_ (by simp; try omega) _)), by rw [ht.out]⟩
    simp [results, Try.results42, go_sem, wr0_agg]
  | cons d l =>
    obtain ⟨bb, off, rfl, hbb, c0⟩ := BySl.at_ hl (k := 0) (b := d) rfl
    have c9 : ((w.alloc (.cells zV 34)).alloc (.cells zV 34)).cell? ⟨bb, off, none⟩ = some (.int .u8 (d.toNat : Int)) := (World.cell?_alloc_lt _ _ ⟨bb, off, none⟩ (by simp; omega)).trans ((World.cell?_alloc_lt w _ ⟨bb, off, none⟩ hbb).trans c0)
    unfold zV at c9
    have c8 : bb ≠ w.heap.size := by omega
    have c7 : bb ≠ w.heap.size + 1 := by omega
    have n0 : ((n : Int) == 0) = false := by have := hn.out; rw [List.length_cons] at this; simp; omega
    have n1 : (0 : Int) < (n : Int) := by have := hn.out; rw [List.length_cons] at this; omega
    clear hl c0
    by_cases hd : d.toNat ≤ 1
    · have ht : Hid (takeK .flag (d :: l) = some ({ wv0 with f := d.toNat == 1 }, 1)) := by unfold Hid takeK; simp only; rw [if_pos hd]
      have d1 : decide ((1 : Int) < (d.toNat : Int)) = false := decide_eq_false (by omega)
      have d2 : ((d.toNat : Int) == 1) = (d.toNat == 1) := by rw [Bool.eq_iff_iff]; simp; omega
      obtain ⟨q, hq⟩ : ∃ q, (d.toNat == 1) = q := ⟨_, rfl⟩
      rw [hq] at d2 ht
      clear hq
      go_enter Try.func42, Try.ntmps42
      go_wp2
      refine bodyPost_ret (v := .tuple #[(⟨{ wv0 with f := q }, none, 0, 0, none, 0, 0⟩ : Wr).agg, .int .i64 1]) ?_ rfl ⟨(by repeat (first | exact Below.refl _ _ | assumption | refine Below.drew ?_ | refine bdrewN ?_ _ | refine Below.alloc ?_ (by simp; try omega) _ | refine Below.setCell ?_ (by simp; try omega) _)), by
        rw [ht.out]
        exact ⟨⟨{ wv0 with f := q }, none, 0, 0, none, 0, 0⟩, rfl, rfl, Wr.Ok.bare _ _ rfl rfl wv0_wf, Wr.From.bare _ _⟩⟩
      simp [results, Try.results42, go_sem, Wr.agg, wv0]
    · have ht : Hid (takeK .flag (d :: l) = none) := by unfold Hid takeK; simp only; rw [if_neg hd]
      have d1 : decide ((1 : Int) < (d.toNat : Int)) = true := decide_eq_true (by omega)
      go_enter Try.func42, Try.ntmps42
      go_wp2
      refine bodyPost_ret (v := .tuple #[wr0.agg, .int .i64 0]) ?_ rfl ⟨(by repeat (first | exact Below.refl _ _ | assumption | refine Below.drew ?_ | refine bdrewN ?_ _ | refine Below.alloc ?_ (by simp; try omega) _ | refine Below.setCell ?_ (by simp; try omega) _)), by rw [ht.out]⟩
      simp [results, Try.results42, go_sem, wr0_agg]
end Go.Proofs.Ytiommdidkhohgaa.Wire
