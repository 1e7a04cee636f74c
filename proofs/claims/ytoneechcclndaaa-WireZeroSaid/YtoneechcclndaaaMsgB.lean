/- message: the program's May, schema, Up. -/
import Derived.Test.YtoneechcclndaaaMsgA
import Derived.Outline
import Derived.BigQuiet
import Derived.Deep.QuietTactic
import Derived.Deep.RegionWith
import Derived.Deep.RegionHeld3
import Derived.Deep.DrawnRows
import Derived.Deep.LoopGhost
import Derived.Deep.DeepCutAuto
import Derived.Laws.EntriesVeiled
namespace Go.Proofs.Ytoneechcclndaaa.Msg
open Go.RowKit Go.ChangeShapes Go.WideShapes Go.ChangeAt
set_option linter.unusedVariables false
set_option linter.unusedSimpArgs false
attribute [local go_sem ↓] Go.wp_at_zero Go.wp_at_succ
open Go.Shelf Go.Proofs.Ytoneechcclndaaa.Word Go.Proofs.Ytoneechcclndaaa.Wire

def Mr.cells (r : Mr) : Array Value := #[.int .u8 (r.v.kind : Int), .int .i64 r.v.client, .int .i64 r.v.epoch, .int .i64 r.v.width, .int .i64 r.v.seq, .bool r.v.last, .slice r.A r.n r.c]
theorem of_is (n : Nat) (k : Kk) (w : World) (hn : n ≤ 18446744073709551615) (hk : kkOf n = some k) : Calls Try.prog 64 #[.int .u64 (n : Int)] w fun e w' => e = .returned (.tuple #[.agg #[.bool k.width, .bool k.seq, .bool k.data, .int .i64 k.least, .bool k.up], .bool true]) ∧ Below w.heap.size w w' := by
  have h := of_any n w hn
  rw [hk] at h
  exact h
theorem of_not (n : Nat) (w : World) (hn : n ≤ 18446744073709551615) (hk : kkOf n = none) : Calls Try.prog 64 #[.int .u64 (n : Int)] w fun e w' => e = .returned (.tuple #[.agg #[.bool false, .bool false, .bool false, .int .i64 0, .bool false], .bool false]) ∧ Below w.heap.size w w' := by
  have h := of_any n w hn
  rw [hk] at h
  exact h
theorem box_in {w w1 : World} {t : TypeId} {cs : Array Value} (hb : Below (w.alloc (.cells cs t)).heap.size (w.alloc (.cells cs t)) w1) : Hid (Blk w1 w.heap.size t cs ∧ Below w.heap.size w w1 ∧ w.heap.size < w1.heap.size) :=
  ⟨(Blk.new w t cs).ext hb, (below_1 w _).trans (hb.mono (by simp)), by have := hb.size; simp at this; omega⟩
set_option maxHeartbeats 4000000 in
theorem may_any (r : Mr) (w : World) (hkd : r.v.kind ≤ 255) (hn : Hid (r.n = r.v.bs.length)) : Calls Try.prog 35 #[r.agg] w fun e w' => e = .returned (.bool (mayB r.v)) ∧ Below w.heap.size w w' := by
  have e1 : IntKind.u64.wrap (r.v.kind : Int) = (r.v.kind : Int) := IntWalk.u64_in _ (by omega)
  cases hk : kkOf r.v.kind with
  | none =>
    have HM : Hid (mayB r.v = false) := by unfold Hid mayB; rw [hk]
    have HO := Lib.hid fun W => of_not r.v.kind W (by omega) hk
    unfold Mr.agg
    clear hk
    go_enter Try.func35, Try.ntmps35
    go_wp2_with (go_at_call 64; refine (HO.out _).mono ?_; rintro e w1 ⟨rfl, hb1⟩; have HB := box_in hb1; clear hb1)
    go_ret
    exact ⟨ret_bool HM.out.symm, HB.out.2.1.alloc HB.out.2.1.size _⟩
  | some k =>
    have HM : Hid (mayB r.v = mayK k r.v) := by unfold Hid mayB; rw [hk]
    have HO := Lib.hid fun W => of_is r.v.kind k W (by omega) hk
    unfold Mr.agg
    clear hk
    go_enter Try.func35, Try.ntmps35
    go_wp2_with fail
    refine (HO.out _).mono ?_; rintro e w1 ⟨rfl, hb1⟩
    have HB := box_in hb1
    clear hb1
    (have hlt := HB.out.2.2; have hne : w.heap.size ≠ w1.heap.size := by omega); have c0 := HB.out.1.cell 0; have c1 := HB.out.1.cell 1; have c2 := HB.out.1.cell 2; have c3 := HB.out.1.cell 3; have c4 := HB.out.1.cell 4; have c5 := HB.out.1.cell 5; have c6 := HB.out.1.cell 6; simp only [List.getElem?_toArray, List.getElem?_cons_zero, List.getElem?_cons_succ] at c0 c1 c2 c3 c4 c5 c6
    go_wp2_with (go_at_call 67; refine (in_any _ _ _ _ _).mono ?_; rintro e w' ⟨rfl, rfl⟩)
    all_goals (
      go_ret
      refine ⟨ret_bool ?_, HB.out.2.1.alloc HB.out.2.1.size _⟩
      rw [HM.out, mayK, ← hn.out]
      clear HB hlt hne c0 c1 c2 c3 c4 c5 c6 HO HM e1
      first | (simp [*]; done) | simp_all)
theorem schema_k (k : Kk) (w : World) : Calls Try.prog 65 #[.agg #[.bool k.width, .bool k.seq, .bool k.data, .int .i64 k.least, .bool k.up]] w fun e w' => e = .returned (.string ⟨(schS k).toArray⟩) ∧ Below w.heap.size w w' := by
  obtain ⟨a, b, c, d, e⟩ := k
  cases c with
  | true =>
    go_enter Try.func65, Try.ntmps65
    go_wp2
    go_ret
    exact ⟨by simp [schS], (by repeat (first | exact Below.refl _ _ | assumption | refine Below.drew ?_ | refine bdrewN ?_ _ | refine Below.alloc ?_ (by simp; try omega) _ | refine Below.setCell ?_ (by simp; try omega) _))⟩
  | false =>
    cases a with
    | true =>
      go_enter Try.func65, Try.ntmps65
      go_wp2
      go_ret
      exact ⟨by simp [schS], (by repeat (first | exact Below.refl _ _ | assumption | refine Below.drew ?_ | refine bdrewN ?_ _ | refine Below.alloc ?_ (by simp; try omega) _ | refine Below.setCell ?_ (by simp; try omega) _))⟩
    | false =>
      cases b <;> (
        go_enter Try.func65, Try.ntmps65
        go_wp2
        go_ret
        exact ⟨by simp [schS], (by repeat (first | exact Below.refl _ _ | assumption | refine Below.drew ?_ | refine bdrewN ?_ _ | refine Below.alloc ?_ (by simp; try omega) _ | refine Below.setCell ?_ (by simp; try omega) _))⟩)
def upM (m : Ms) : Bool := mayB m && (match kkOf m.kind with | none => false | some k => k.up)
set_option maxHeartbeats 4000000 in
theorem up_any (r : Mr) (w : World) (hkd : r.v.kind ≤ 255) (hn : Hid (r.n = r.v.bs.length)) : Calls Try.prog 36 #[r.agg] w fun e w' => e = .returned (.bool (upM r.v)) ∧ Below w.heap.size w w' := by
  have e1 : IntKind.u64.wrap (r.v.kind : Int) = (r.v.kind : Int) := IntWalk.u64_in _ (by omega)
  have hmay := Lib.hid fun W => may_any r W hkd hn
  cases hk : kkOf r.v.kind with
  | none =>
    have HM : Hid (mayB r.v = false ∧ upM r.v = false) := by unfold Hid upM mayB; rw [hk]; exact ⟨rfl, rfl⟩
    have HO := Lib.hid fun W => of_not r.v.kind W (by omega) hk
    unfold Mr.agg at hmay ⊢
    rw [HM.out.1] at hmay
    clear hk
    go_enter Try.func36, Try.ntmps36
    go_wp2_with fail
    refine (HO.out _).mono ?_; rintro e w1 ⟨rfl, hb1⟩
    have HB := box_in hb1
    clear hb1
    (have hlt := HB.out.2.2; have hne : w.heap.size ≠ w1.heap.size := by omega); have c0 := HB.out.1.cell 0; have c1 := HB.out.1.cell 1; have c2 := HB.out.1.cell 2; have c3 := HB.out.1.cell 3; have c4 := HB.out.1.cell 4; have c5 := HB.out.1.cell 5; have c6 := HB.out.1.cell 6; simp only [List.getElem?_toArray, List.getElem?_cons_zero, List.getElem?_cons_succ] at c0 c1 c2 c3 c4 c5 c6
    go_wp2_with (go_at_call 35; refine (hmay.out _).mono ?_; rintro e w2 ⟨rfl, hb2⟩)
    go_ret
    exact ⟨ret_bool HM.out.2.symm, ext_under (HB.out.2.1.alloc HB.out.2.1.size _) (Nat.le_refl _) hb2⟩
  | some k =>
    have HM : Hid (upM r.v = (mayB r.v && k.up)) := by unfold Hid upM; rw [hk]
    have HO := Lib.hid fun W => of_is r.v.kind k W (by omega) hk
    unfold Mr.agg at hmay ⊢
    clear hk
    go_enter Try.func36, Try.ntmps36
    go_wp2_with fail
    refine (HO.out _).mono ?_; rintro e w1 ⟨rfl, hb1⟩
    have HB := box_in hb1
    clear hb1
    (have hlt := HB.out.2.2; have hne : w.heap.size ≠ w1.heap.size := by omega); have c0 := HB.out.1.cell 0; have c1 := HB.out.1.cell 1; have c2 := HB.out.1.cell 2; have c3 := HB.out.1.cell 3; have c4 := HB.out.1.cell 4; have c5 := HB.out.1.cell 5; have c6 := HB.out.1.cell 6; simp only [List.getElem?_toArray, List.getElem?_cons_zero, List.getElem?_cons_succ] at c0 c1 c2 c3 c4 c5 c6
    cases hq : mayB r.v with
    | false =>
      rw [hq] at hmay
      go_wp2_with (go_at_call 35; refine (hmay.out _).mono ?_; rintro e w2 ⟨rfl, hb2⟩)
      go_ret
      exact ⟨ret_bool (by rw [HM.out, hq]; rfl), ext_under (HB.out.2.1.alloc HB.out.2.1.size _) (Nat.le_refl _) hb2⟩
    | true =>
      rw [hq] at hmay
      go_wp2_with (go_at_call 35; refine (hmay.out _).mono ?_; rintro e w2 ⟨rfl, hb2⟩; have hc4 : w2.cell? ⟨w1.heap.size, 4, none⟩ = some (.bool k.up) := ((Blk.new w1 _ _).ext hb2).cell 4)
      go_ret
      exact ⟨ret_bool (by rw [HM.out, hq]; rfl), ext_under (HB.out.2.1.alloc HB.out.2.1.size _) (Nat.le_refl _) hb2⟩
end Go.Proofs.Ytoneechcclndaaa.Msg
