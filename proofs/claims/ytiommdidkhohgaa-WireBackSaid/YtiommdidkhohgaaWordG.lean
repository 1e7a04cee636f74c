/- slices.IndexFunc over bytes, of words.Get's own test. -/
import Derived.Test.YtiommdidkhohgaaWordF
import Derived.Outline
import Derived.BigQuiet
import Derived.Deep.QuietTactic
import Derived.Deep.RegionWith
import Derived.Deep.RegionHeld3
import Derived.Deep.DrawnRows
import Derived.Deep.LoopGhost
import Derived.Deep.DeepCutAuto
import Derived.Laws.EntriesVeiled
namespace Go.Proofs.Ytiommdidkhohgaa.Word
open Go.RowKit Go.ChangeShapes Go.WideShapes Go.ChangeAt
set_option linter.unusedVariables false
set_option linter.unusedSimpArgs false
attribute [local go_sem ↓] Go.wp_at_zero Go.wp_at_succ

theorem lowIdx_drop {l : List UInt8} {j : Nat} {b : UInt8} (h : l[j]? = some b) : lowIdx (l.drop j) = if b.toNat < 128 then some 0 else (lowIdx (l.drop (j + 1))).map (· + 1) := by
  have hj : j < l.length := (List.getElem?_eq_some_iff.1 h).1
  have e : l.drop j = b :: l.drop (j + 1) := by
    rw [List.drop_eq_getElem_cons hj]
    congr 1
    exact (List.getElem?_eq_some_iff.1 h).2
  rw [e, lowIdx]

def lowI (l : List UInt8) : Int := match lowIdx l with | none => -1 | some i => (i : Int)

theorem lowAt (l : List UInt8) (j : Nat) (h : lowIdx l = (lowIdx (l.drop j)).map (· + j)) {b : UInt8} (hx : l[j]? = some b) :
    (b.toNat < 128 → lowI l = (j : Int)) ∧ (¬ b.toNat < 128 → lowIdx l = (lowIdx (l.drop (j + 1))).map (· + (j + 1))) := by
  rw [lowIdx_drop hx] at h
  constructor
  · intro hb
    rw [if_pos hb] at h
    unfold lowI
    rw [h]; simp
  · intro hb
    rw [if_neg hb] at h
    rw [h]
    cases lowIdx (l.drop (j + 1)) with
    | none => rfl
    | some k => simp; omega

theorem indexLow_any (l : List UInt8) (A : Option Addr) (n cap : Nat) (w : World) (hl : BySl w w.heap.size A l) (hn : Hid (n = l.length)) (hm : n ≤ 1000000000000) :
    Calls Try.prog 88 #[.slice A n cap, .func (.func 89) #[] #[]] w fun e w' => e = .returned (.int .i64 (lowI l)) ∧ w = w' := by
  go_enter Try.func88, Try.ntmps88
  go_wp2
  go_loopg [8] n (fun g vj wr => wr = w ∧ ∃ j : Nat, vj = .int .i64 (j : Int) ∧ j + g = n ∧ Hid (lowIdx l = (lowIdx (l.drop j)).map (· + j)))
  case atStart => exact ⟨rfl, 0, rfl, by omega, by rw [Hid]; simp⟩
  case round =>
    obtain ⟨rfl, j, rfl, hg, hj⟩ := hrel
    by_cases hlt : j < n
    · have hx : l[j]? = some l[j] := List.getElem?_eq_getElem (by rw [← hn.out]; omega)
      obtain ⟨bb, off, rfl, hbb, c0⟩ := BySl.at_ hl hx
      have HL := Lib.hid (lowAt l j hj.out hx)
      generalize l[j] = b at *
      have b0 : (0 : Int) ≤ (j : Int) := Int.natCast_nonneg _
      have b1 : (j : Int) < (n : Int) := by omega
      clear hx
      by_cases hb : b.toNat < 128
      · have hd : decide (b.toNat < 128) = true := by simpa using hb
        have HD := Lib.hid (HL.out.1 hb)
        have hc := fun w => low_any b w
        rw [hd] at hc
        have HC := Lib.hid hc
        clear hc hb hd
        go_wp2_with (go_at_call 89; refine (HC.out _).mono ?_; rintro e w' ⟨rfl, rfl⟩)
        go_ret
        exact ⟨ret_k HD.out.symm, rfl⟩
      · have hd : decide (b.toNat < 128) = false := by simpa using hb
        have HD := Lib.hid (HL.out.2 hb)
        have hc := fun w => low_any b w
        rw [hd] at hc
        have HC := Lib.hid hc
        clear hc hb hd
        go_wp2_with (go_at_call 89; refine (HC.out _).mono ?_; rintro e w' ⟨rfl, rfl⟩)
        go_roundg (gk - 1)
        case measure => omega
        case rel => exact ⟨rfl, j + 1, by go_num, by omega, HD.out⟩
    · have e : Hid (lowI l = -1) := by
        unfold Hid lowI
        rw [hj.out, List.drop_of_length_le (by rw [← hn.out]; omega)]; rfl
      have b1 : ¬ (j : Int) < (n : Int) := by omega
      go_wp2
      go_ret
      exact ⟨ret_k e.out.symm, rfl⟩
end Go.Proofs.Ytiommdidkhohgaa.Word
