/- message: the document's Same, Copy. -/
import Derived.Test.YtoneechcclndaaaRMsgB
import Derived.Outline
import Derived.BigQuiet
import Derived.Deep.QuietTactic
import Derived.Deep.RegionWith
import Derived.Deep.RegionHeld3
import Derived.Deep.DrawnRows
import Derived.Deep.LoopGhost
import Derived.Deep.DeepCutAuto
import Derived.Laws.EntriesVeiled
namespace Go.Proofs.Ytoneechcclndaaa.Msg
open Go.RowKit Go.ChangeShapes Go.WideShapes Go.ChangeAt
set_option linter.unusedVariables false
set_option linter.unusedSimpArgs false
attribute [local go_sem ↓] Go.wp_at_zero Go.wp_at_succ
open Go.Shelf Go.Proofs.Ytoneechcclndaaa.Word Go.Proofs.Ytoneechcclndaaa.Wire

set_option maxHeartbeats 4000000 in
theorem rSame24_any (a b : Mr) (w : World) (ha : a.Rd w) (hb : b.Rd w) : Calls Try.prog 30 #[a.agg, b.agg] w fun e w' => e = .returned (.bool (sameM a.v b.v)) ∧ Below w.heap.size w w' := by
  obtain ⟨⟨k1, c1, e1, w1, s1, l1, x1⟩, A1, n1, m1⟩ := a
  obtain ⟨⟨k2, c2, e2, w2, s2, l2, x2⟩, A2, n2, m2⟩ := b
  unfold Mr.agg
  have hsame : ∀ W, Hid (Below w.heap.size w W) → Calls Try.prog 20 #[.slice A1 n1 m1, .slice A2 n2 m2] W fun e w' => e = .returned (.bool (Bytes.eqB x1 x2)) ∧ ∃ n, w' = W.drewN n := fun W hW =>
    same_at x1 x2 A1 A2 n1 n2 m1 m2 W (ha.b.ext hW.out) (hb.b.ext hW.out) ha.n hb.n (by have := ha.n.out; have := ha.le; simp only at *; unfold maxLen; omega) (by have := hb.n.out; have := hb.le; simp only at *; unfold maxLen; omega)
  have hV : Hid (sameM ⟨k1, c1, e1, w1, s1, l1, x1⟩ ⟨k2, c2, e2, w2, s2, l2, x2⟩ = (k1 == k2 && (c1 == c2 && (e1 == e2 && (w1 == w2 && (s1 == s2 && (l1 == l2 && Bytes.eqB x1 x2))))))) := rfl
  generalize sameM ⟨k1, c1, e1, w1, s1, l1, x1⟩ ⟨k2, c2, e2, w2, s2, l2, x2⟩ = res at *
  clear ha hb
  by_cases hk : k1 = k2
  · subst hk
    by_cases hc : c1 = c2
    · subst hc
      by_cases he : e1 = e2
      · subst he
        by_cases hw : w1 = w2
        · subst hw
          by_cases hs : s1 = s2
          · subst hs
            by_cases hl : l1 = l2
            · subst hl
              have HV : Hid (res = Bytes.eqB x1 x2) := by rw [Hid, hV.out]; simp
              generalize Bytes.eqB x1 x2 = q at *
              go_enter Try.func30, Try.ntmps30
              go_wp2_with (go_at_call 20; refine (hsame _ ?_).mono ?_; exact Lib.hid (by repeat (first | exact Below.refl _ _ | assumption | refine Below.drew ?_ | refine bdrewN ?_ _ | refine Below.alloc ?_ (by simp; try omega) _ | refine Below.setCell ?_ (by simp; try omega) _)); rintro e w' ⟨rfl, kk, rfl⟩)
              go_ret
              exact ⟨ret_bool HV.out.symm, (by repeat (first | exact Below.refl _ _ | assumption | refine Below.drew ?_ | refine bdrewN ?_ _ | refine Below.alloc ?_ (by simp; try omega) _ | refine Below.setCell ?_ (by simp; try omega) _))⟩
            · have HV : Hid (res = false) := by rw [Hid, hV.out, show (l1 == l2) = false from by simpa using hl]; simp
              have h9 : (l1 == l2) = false := by simpa using hl
              clear hsame
              go_enter Try.func30, Try.ntmps30; go_wp2; go_ret; exact ⟨ret_bool HV.out.symm, (by repeat (first | exact Below.refl _ _ | assumption | refine Below.drew ?_ | refine bdrewN ?_ _ | refine Below.alloc ?_ (by simp; try omega) _ | refine Below.setCell ?_ (by simp; try omega) _))⟩
          · have HV : Hid (res = false) := by rw [Hid, hV.out, show (s1 == s2) = false from by simpa using hs]; simp
            have h9 : (s1 == s2) = false := by simpa using hs
            clear hsame
            go_enter Try.func30, Try.ntmps30; go_wp2; go_ret; exact ⟨ret_bool HV.out.symm, (by repeat (first | exact Below.refl _ _ | assumption | refine Below.drew ?_ | refine bdrewN ?_ _ | refine Below.alloc ?_ (by simp; try omega) _ | refine Below.setCell ?_ (by simp; try omega) _))⟩
        · have HV : Hid (res = false) := by rw [Hid, hV.out, show (w1 == w2) = false from by simpa using hw]; simp
          have h9 : (w1 == w2) = false := by simpa using hw
          clear hsame
          go_enter Try.func30, Try.ntmps30; go_wp2; go_ret; exact ⟨ret_bool HV.out.symm, (by repeat (first | exact Below.refl _ _ | assumption | refine Below.drew ?_ | refine bdrewN ?_ _ | refine Below.alloc ?_ (by simp; try omega) _ | refine Below.setCell ?_ (by simp; try omega) _))⟩
      · have HV : Hid (res = false) := by rw [Hid, hV.out, show (e1 == e2) = false from by simpa using he]; simp
        have h9 : (e1 == e2) = false := by simpa using he
        clear hsame
        go_enter Try.func30, Try.ntmps30; go_wp2; go_ret; exact ⟨ret_bool HV.out.symm, (by repeat (first | exact Below.refl _ _ | assumption | refine Below.drew ?_ | refine bdrewN ?_ _ | refine Below.alloc ?_ (by simp; try omega) _ | refine Below.setCell ?_ (by simp; try omega) _))⟩
    · have HV : Hid (res = false) := by rw [Hid, hV.out, show (c1 == c2) = false from by simpa using hc]; simp
      have h9 : (c1 == c2) = false := by simpa using hc
      clear hsame
      go_enter Try.func30, Try.ntmps30; go_wp2; go_ret; exact ⟨ret_bool HV.out.symm, (by repeat (first | exact Below.refl _ _ | assumption | refine Below.drew ?_ | refine bdrewN ?_ _ | refine Below.alloc ?_ (by simp; try omega) _ | refine Below.setCell ?_ (by simp; try omega) _))⟩
  · have HV : Hid (res = false) := by rw [Hid, hV.out, show (k1 == k2) = false from by simpa using hk]; simp
    have h9 : ((k1 : Int) == (k2 : Int)) = false := by simp; omega
    have h8 : (k1 == k2) = false := by simpa using hk
    clear hsame
    go_enter Try.func30, Try.ntmps30; go_wp2; go_ret; exact ⟨ret_bool HV.out.symm, (by repeat (first | exact Below.refl _ _ | assumption | refine Below.drew ?_ | refine bdrewN ?_ _ | refine Below.alloc ?_ (by simp; try omega) _ | refine Below.setCell ?_ (by simp; try omega) _))⟩
theorem rSame24_v (a b : Mr) (r : Bool) (w : World) (ha : a.Rd w) (hb : b.Rd w) (hv : sameM a.v b.v = r) : Calls Try.prog 30 #[a.agg, b.agg] w fun e w' => e = .returned (.bool r) ∧ Below w.heap.size w w' := by
  subst hv; exact rSame24_any a b w ha hb
/-- what Copy leaves -/
def RetMs (w : World) (m : Ms) (e : Ending) (w' : World) : Prop := Below w.heap.size w w' ∧ ∃ r : Mr, e = .returned r.agg ∧ r.v = m ∧ r.Rd w'
set_option maxHeartbeats 4000000 in
set_option maxRecDepth 100000 in
theorem rcopy24_any (m : Mr) (w : World) (hm : m.Rd w) : Calls Try.prog 31 #[m.agg] w (RetMs w m.v) := by
  have HM := Lib.hid hm
  have hcp := Lib.hid (fun W (hW : Below w.heap.size w W) => Bytes.copy_any m.v.bs m.A m.n m.c W (hm.b.ext hW) (by have := hm.le; omega) hm.n)
  have hle : m.v.bs.length ≤ 1000000 := hm.le
  clear hm
  unfold Mr.agg
  go_enter Try.func31, Try.ntmps31
  go_wp2_with fail
  refine (hcp.out _ ((by repeat (first | exact Below.refl _ _ | assumption | refine Below.drew ?_ | refine bdrewN ?_ _ | refine Below.alloc ?_ (by simp; try omega) _ | refine Below.setCell ?_ (by simp; try omega) _)))).mono ?_
  rintro e w1 ⟨v1, rfl, hown1, hb1⟩
  obtain ⟨A1, n1, c1, rfl, hn1, hle1, hmx1⟩ := hown1.form
  have K0 : Blk w1 w.heap.size 48 (Mr.cells m) := ((Blk.new w 48 (Mr.cells m)).alloc _).ext hb1
  have K1 : Blk w1 (w.heap.size + 1) 48 #[.int .u8 0, .int .i64 0, .int .i64 0, .int .i64 0, .int .i64 0, .bool false, .slice none 0 0] := by
    have h := (Blk.new (w.alloc (.cells (Mr.cells m) 48)) 48 #[.int .u8 0, .int .i64 0, .int .i64 0, .int .i64 0, .int .i64 0, .bool false, .slice none 0 0]).ext hb1
    rwa [World.size_alloc] at h
  have hB : Below w.heap.size w w1 := ((below_1 w _).trans ((below_1 _ _).mono (by simp))).trans (hb1.mono (by simp; omega))
  have hfr : ∀ k, (Value.slice A1 n1 c1).ownBlock = some k → w.heap.size + 2 ≤ k := fun k hk => by have := (hown1.lt hk).1; simp at this; omega
  have hO : OwnA w1 5 1 encB (.slice A1 n1 c1) m.v.bs := OwnA.of_own hown1
  have f6 := K0.free 6
  have c6 := K0.cell 6
  simp only [Mr.cells, List.getElem?_toArray, List.getElem?_cons_zero, List.getElem?_cons_succ] at c6
  have HA : Hid ((Blk w1 w.heap.size 48 (Mr.cells m) ∧ Blk w1 (w.heap.size + 1) 48 #[.int .u8 0, .int .i64 0, .int .i64 0, .int .i64 0, .int .i64 0, .bool false, .slice none 0 0] ∧ Below w.heap.size w w1) ∧ OwnA w1 5 1 encB (.slice A1 n1 c1) m.v.bs ∧ ∀ k, (Value.slice A1 n1 c1).ownBlock = some k → w.heap.size + 2 ≤ k) := ⟨⟨K0, K1, hB⟩, hO, hfr⟩
  clear K0 K1 hB hO hfr hown1 hb1 hcp
  go_upto_region 2 with fail
  clear f6 c6
  have HC : Hid ((Blk (w1.setCell ⟨w.heap.size, 6, none⟩ (.slice A1 n1 c1)) w.heap.size 48 (Mr.cells ⟨m.v, A1, n1, c1⟩) ∧ Blk (w1.setCell ⟨w.heap.size, 6, none⟩ (.slice A1 n1 c1)) (w.heap.size + 1) 48 #[.int .u8 0, .int .i64 0, .int .i64 0, .int .i64 0, .int .i64 0, .bool false, .slice none 0 0] ∧ Below w.heap.size w (w1.setCell ⟨w.heap.size, 6, none⟩ (.slice A1 n1 c1))) ∧ OwnA (w1.setCell ⟨w.heap.size, 6, none⟩ (.slice A1 n1 c1)) 5 1 encB (.slice A1 n1 c1) m.v.bs) := by
    refine ⟨⟨HA.out.1.1.set_ 6 _, HA.out.1.2.1.far (by simp) _, HA.out.1.2.2.setCell (Nat.le_refl _) _⟩, HA.out.2.1.chg (S := fun k => k = w.heap.size) ((Chg.refl (fun k => k = w.heap.size) _).setCell (p := ⟨w.heap.size, 6, none⟩) (fun _ => rfl) _) (fun k hk e => by have := HA.out.2.2 k hk; omega)⟩
  have HF := Lib.hid HA.out.2.2
  clear HA
  generalize w1.setCell ⟨w.heap.size, 6, none⟩ (.slice A1 n1 c1) = W2 at *
  have k0 := HC.out.1.1.cell 0
  have k1 := HC.out.1.1.cell 1
  have k2 := HC.out.1.1.cell 2
  have k3 := HC.out.1.1.cell 3
  have k4 := HC.out.1.1.cell 4
  have k5 := HC.out.1.1.cell 5
  have k6 := HC.out.1.1.cell 6
  simp only [Mr.cells, List.getElem?_toArray, List.getElem?_cons_zero, List.getElem?_cons_succ] at k0 k1 k2 k3 k4 k5 k6
  have HX : Hid (W2.heap[w.heap.size + 1]? = some (.cells #[.int .u8 0, .int .i64 0, .int .i64 0, .int .i64 0, .int .i64 0, .bool false, .slice none 0 0] 48 (0, 0))) := HC.out.1.2.1
  go_wp2_with (with_reducible refine wpList_store_row rfl 48 (.tmp 2) (.tmp 7) rfl _ _ rfl rfl 48 _ HX.out (zM ⟨m.v, A1, n1, c1⟩) rfl (one7 _ _ _ _ _ _ _ _ _) ?_)
  refine bodyPost_ret (v := (⟨m.v, A1, n1, c1⟩ : Mr).agg) (results_cell Try.results31 rfl (mres _ _ ⟨m.v, A1, n1, c1⟩ (setRow_heap _ _ _ _ _ _ HX.out))) rfl ⟨below_setRow HC.out.1.2.2 (by omega) _, ⟨m.v, A1, n1, c1⟩, rfl, rfl, ?_, hn1, hle, HM.out.kd⟩
  exact (HC.out.2.chg (chg_setRow _ _ _) (fun k hk => by have := HF.out k hk; omega)).sl encB_len
end Go.Proofs.Ytoneechcclndaaa.Msg
