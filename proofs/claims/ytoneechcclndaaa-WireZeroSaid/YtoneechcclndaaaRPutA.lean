/- wire: the document's Fold, Row, fits, one. -/
import Derived.Test.YtoneechcclndaaaAwake04
import Derived.Outline
import Derived.BigQuiet
import Derived.Deep.QuietTactic
import Derived.Deep.RegionWith
import Derived.Deep.RegionHeld3
import Derived.Deep.DrawnRows
import Derived.Deep.LoopGhost
import Derived.Deep.DeepCutAuto
import Derived.Laws.EntriesVeiled
namespace Go.Proofs.Ytoneechcclndaaa.Wire
open Go.RowKit Go.ChangeShapes Go.WideShapes Go.ChangeAt
set_option linter.unusedVariables false
set_option linter.unusedSimpArgs false
attribute [local go_sem ↓] Go.wp_at_zero Go.wp_at_succ
open Go.Shelf Go.Proofs.Ytoneechcclndaaa.Word

theorem rfold_any (i : Int) (h1 : -9223372036854775808 ≤ i) (h2 : i ≤ 9223372036854775807) (w : World) : Calls Try.prog 85 #[.int .i64 i] w fun e w' => e = .returned (.int .u64 (foldZ i : Int)) ∧ w = w' := by
  by_cases h : i < 0
  · obtain ⟨k, hk⟩ : ∃ k : Nat, (k : Int) = -1 - i := ⟨(-1 - i).toNat, by omega⟩
    obtain ⟨f, hf⟩ : ∃ f : Nat, f = 2 * k + 1 := ⟨_, rfl⟩
    have h0 : ¬ 0 ≤ i := by omega
    have e2 : IntKind.i64.wrap (-1 - i) = (k : Int) := by rw [hk]; exact IntWalk.i64_in _ (by omega)
    have e3 : IntKind.u64.wrap (k : Int) = (k : Int) := IntWalk.u64_in _ (by omega)
    have e4 : IntKind.u64.wrap ((k : Int) * 2) = (k : Int) * 2 := IntWalk.u64_in _ (by omega)
    have e5 : IntKind.u64.wrap ((k : Int) * 2 + 1) = (f : Int) := by rw [show (k : Int) * 2 + 1 = (f : Int) from by omega]; exact IntWalk.u64_in _ (by omega)
    have hF : Hid (foldZ i = f) := by unfold Hid foldZ; rw [if_pos h]; omega
    have HK := Lib.hid hk
    have HFF := Lib.hid hf
    clear hk hf
    go_enter Try.func85, Try.ntmps85
    go_wp2
    go_ret
    exact ⟨ret_k (by rw [hF.out]), rfl⟩
  · obtain ⟨k, rfl⟩ : ∃ k : Nat, i = (k : Int) := ⟨i.toNat, by omega⟩
    obtain ⟨f, hf⟩ : ∃ f : Nat, f = 2 * k := ⟨_, rfl⟩
    have e3 : IntKind.u64.wrap (k : Int) = (k : Int) := IntWalk.u64_in _ (by omega)
    have e4 : IntKind.u64.wrap ((k : Int) * 2) = (f : Int) := by rw [show (k : Int) * 2 = (f : Int) from by omega]; exact IntWalk.u64_in _ (by omega)
    have hF : Hid (foldZ k = f) := by unfold Hid foldZ; rw [if_neg h]; omega
    have HFF := Lib.hid hf
    clear hf
    go_enter Try.func85, Try.ntmps85
    go_wp2
    go_ret
    exact ⟨ret_k (by rw [hF.out]), rfl⟩

theorem rowW_take {l : List Nat} {j x : Nat} (h : l[j]? = some x) : rowW (l.take (j + 1)) = rowW (l.take j) ++ putW x := by
  unfold rowW
  rw [List.take_add_one, h]
  simp
theorem CI.nil (w : World) : CI w w none 0 0 [] := ⟨OwnA.nil_ _ _ _ _, (fun k hk => by cases hk), Below.refl _ _⟩
theorem CI.ext {w wr w1 : World} {A : Option Addr} {n c : Nat} {bs : List UInt8} (h : CI w wr A n c bs) (hb : Below wr.heap.size wr w1) : CI w w1 A n c bs := ⟨h.own.ext hb, h.fr, ext_under h.be (Nat.le_refl _) hb⟩
set_option maxHeartbeats 2000000 in
theorem rrow2_any (l : List Nat) (A : Option Addr) (n cap : Nat) (w : World) (hl : Sl w w.heap.size 1 encN A l) (hn : Hid (n = l.length)) (hm : n ≤ 1000000) (hw : ∀ x ∈ l, x < p64) :
    Calls Try.prog 86 #[.slice A n cap] w (RetA w 5 1 encB (rowW l)) := by
  obtain ⟨i0, hi, hz, hz1, hz2⟩ := info_parts byInfo
  have HL := Lib.hid (And.intro hl hw)
  clear hl hw
  go_enter Try.func86, Try.ntmps86
  go_wp2
  go_loopg [3, 4] n (fun g vo vj wr => ∃ (j : Nat) (A2 : Option Addr) (n2 c2 : Nat), vj = .int .i64 (j : Int) ∧ vo = .slice A2 n2 c2 ∧ n ≤ j + g ∧ j ≤ n ∧ Hid (CI w wr A2 n2 c2 (rowW (l.take j))))
  case atStart => exact ⟨0, none, 0, 0, rfl, rfl, by omega, by omega, CI.nil _⟩
  case round =>
    obtain ⟨j, A2, n2, c2, rfl, rfl, hg, hj, hCI⟩ := hrel
    by_cases hlt : j < n
    · have hj1 : j < l.length := by rw [← hn.out]; exact hlt
      have hx := List.getElem?_eq_getElem hj1
      obtain ⟨bb, off, rfl, hbb, c0⟩ := encN_at (HL.out.1.ext hCI.out.be) hx
      have hxw := HL.out.2 _ (List.getElem_mem hj1)
      have HX := Lib.hid (rowW_take hx)
      have hle : (rowW (l.take j)).length ≤ 10 * n := by
        have := rowW_le (l.take j) (fun x hx => HL.out.2 x (List.mem_of_mem_take hx))
        rw [List.length_take] at this
        have h2 := hn.out
        omega
      generalize l[j] = x at *
      have hpl := putW_len (p64_lt hxw)
      have h1 : Hid ((rowW (l.take j)).length + (putW x).length ≤ maxLen) := by rw [Hid]; unfold maxLen; omega
      have h2 : Hid (((rowW (l.take j)).length + (putW x).length) * 1 ≤ 140737488355328) := by rw [Hid]; omega
      have b0 : (0 : Int) ≤ (j : Int) := Int.natCast_nonneg _
      have b2 : (j : Int) < (n : Int) := by omega
      have b3 : decide (j < n) = true := decide_eq_true hlt
      clear hx hle hpl
      go_wp2_with (first | (go_at_call 25; refine (rput x hxw _).mono ?_; rintro e w1 ⟨v1, rfl, hown1, hb1⟩; obtain ⟨A1, n1, c1, rfl, hn1, hle1, hmx1⟩ := hown1.form; have HP : Hid (OwnA w1 5 1 encB (.slice A1 n1 c1) (putW x) ∧ CI w w1 A2 n2 c2 (rowW (l.take j))) := ⟨OwnA.of_own hown1, hCI.out.ext hb1⟩; clear hown1 hb1) | (at_builtin; refine wpList_append_a _ rfl _ _ _ rfl 5 i0 _ 1 1 Try.underlying25 hi hz hz1 hz2 rfl (by decide) encB_len encB_one _ (rowW (l.take j)) (by rfl) HP.out.2.own _ A1 (putW x) n1 c1 (by rfl) hn1.out (HP.out.1.sl encB_len) h1.out h2.out ?_; intro v' w' hown' hchg hat; obtain ⟨A3, n3, c3, rfl, hn3, hle3, hmx3, hnil3⟩ := hown'.form; have HA := Lib.hid (HP.out.2.next hown' hchg hat); clear hown' hchg hat))
      go_roundg (gk - 1)
      case measure => omega
      case rel => exact ⟨j + 1, A3, n3, c3, by go_num, rfl, by omega, by omega, by rw [HX.out]; exact HA.out⟩
    · have b2 : ¬ (j : Int) < (n : Int) := by omega
      have b3 : decide (j < n) = false := decide_eq_false hlt
      have hall : Hid (l.take j = l) := List.take_of_length_le (by rw [← hn.out]; omega)
      go_wp2
      go_ret
      have h := hCI.out
      rw [hall.out] at h
      exact ⟨_, rfl, h.own, h.fr, h.be⟩

set_option maxHeartbeats 4000000 in
theorem rfits_any (r : Wr) (k : Kd) (w : World) (hbn : r.bn = r.v.b.length) (hln : r.ln = r.v.l.length) : Calls Try.prog 57 #[.int .u8 (k.byte : Int), r.agg] w fun e w' => e = .returned (.bool (fitsK k r.v)) ∧ Below w.heap.size w w' := by
  obtain ⟨⟨n, i, f, b, l⟩, A, bn, bc, L, ln, lc⟩ := r
  simp only at hbn hln
  obtain ⟨q1, h1⟩ : ∃ q, q = ((n : Int) == 0) := ⟨_, rfl⟩
  obtain ⟨q2, h2⟩ : ∃ q, q = (i == 0) := ⟨_, rfl⟩
  obtain ⟨q4, h4⟩ : ∃ q, q = ((bn : Int) == 0) := ⟨_, rfl⟩
  obtain ⟨q5, h5⟩ : ∃ q, q = ((ln : Int) == 0) := ⟨_, rfl⟩
  have g1 : (n == 0) = q1 := by rw [h1, Bool.eq_iff_iff]; simp
  have g4 : b.isEmpty = q4 := by rw [h4, Bool.eq_iff_iff, hbn]; cases b <;> simp; omega
  have g5 : l.isEmpty = q5 := by rw [h5, Bool.eq_iff_iff, hln]; cases l <;> simp; omega
  have HV : ∀ k, Hid (fitsK k ⟨n, i, f, b, l⟩ = match k with
      | .nat => q2 && !f && q4 && q5 | .int => q1 && !f && q4 && q5 | .flag => q1 && q2 && q4 && q5 | .bytes => q1 && q2 && !f && q5 | .row => q1 && q2 && !f && q4) := fun k => by
    cases k <;> simp only [Hid, fitsK, g1, ← h2, g4, g5]
  have HV := HV k
  generalize fitsK k ⟨n, i, f, b, l⟩ = res at *
  clear g1 g4 g5 hbn hln
  replace h1 := h1.symm
  replace h2 := h2.symm
  replace h4 := h4.symm
  replace h5 := h5.symm
  unfold Wr.agg
  have HR := Lib.hid HV
  clear HV
  have HV := HR
  clear HR
  cases k <;> (
    unfold Kd.byte
    go_enter Try.func57, Try.ntmps57
    go_wp2
    all_goals (
      go_ret
      refine ⟨ret_bool ?_, (by repeat (first | exact Below.refl _ _ | assumption | refine Below.drew ?_ | refine bdrewN ?_ _ | refine Below.alloc ?_ (by simp; try omega) _ | refine Below.setCell ?_ (by simp; try omega) _))⟩
      rw [HV.out]
      clear HV h1 h2 h4 h5
      first | (simp [*]; done) | simp_all))
end Go.Proofs.Ytoneechcclndaaa.Wire
