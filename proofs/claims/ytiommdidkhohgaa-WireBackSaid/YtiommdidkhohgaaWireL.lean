/- wire: the document's Schema and take by a letter. -/
import Derived.Test.YtiommdidkhohgaaWireK
import Derived.Outline
import Derived.BigQuiet
import Derived.Deep.QuietTactic
import Derived.Deep.RegionWith
import Derived.Deep.RegionHeld3
import Derived.Deep.DrawnRows
import Derived.Deep.LoopGhost
import Derived.Deep.DeepCutAuto
import Derived.Laws.EntriesVeiled
namespace Go.Proofs.Ytiommdidkhohgaa.Wire
open Go.RowKit Go.ChangeShapes Go.WideShapes Go.ChangeAt
set_option linter.unusedVariables false
set_option linter.unusedSimpArgs false
attribute [local go_sem ↓] Go.wp_at_zero Go.wp_at_succ
open Go.Shelf Go.Proofs.Ytiommdidkhohgaa.Word

theorem rtk_any (k : Kd) (l : List UInt8) (A : Option Addr) (n cap : Nat) (w : World) (hl : BySl w w.heap.size A l) (hn : Hid (n = l.length)) (hc : n ≤ cap) (hm : n ≤ 1000000000000) :
    Calls Try.prog 42 #[.int .u8 (k.byte : Int), .slice A n cap] w (RetRk w (takeK k l)) := by
  cases k with
  | nat => exact rnat_any l A n cap w hl hn hc hm
  | int => exact rint_any l A n cap w hl hn hc hm
  | flag => exact rflag_any l A n cap w hl hn (by omega)
  | bytes => exact rbytes_any l A n cap w hl hn hc hm
  | row => exact rrow_any l A n cap w hl hn hc hm

theorem kdOf_byte {x : Nat} {k : Kd} (h : kdOf x = some k) : x = k.byte := by
  unfold kdOf at h
  split at h; · cases h; assumption
  split at h; · cases h; assumption
  split at h; · cases h; assumption
  split at h; · cases h; assumption
  split at h; · cases h; assumption
  cases h
theorem kdOf_no {x : Nat} (h : kdOf x = none) : x ≠ 110 ∧ x ≠ 105 ∧ x ≠ 102 ∧ x ≠ 98 ∧ x ≠ 108 := by
  refine ⟨?_, ?_, ?_, ?_, ?_⟩ <;> (rintro rfl; revert h; decide)

theorem rschema_any (s : ByteArray) (w : World) (hs : s.data.toList.length ≤ 1000000) :
    Calls Try.prog 41 #[.string s] w fun e w' => e = .returned (.bool (schemaP s.data.toList).isSome) ∧ w = w' := by
  obtain ⟨l, hl⟩ : ∃ l, l = s.data.toList := ⟨_, rfl⟩
  rw [← hl] at hs ⊢
  have hsz : Hid (s.size = l.length) := by rw [hl]; rfl
  obtain ⟨n, hn⟩ : ∃ n, n = s.size := ⟨_, rfl⟩
  rw [← hn] at hsz
  have hnl : n ≤ 1000000 := by rw [hsz.out]; exact hs
  go_enter Try.func41, Try.ntmps41
  go_wp2
  go_loopg [3] n (fun gk vj wr => ∃ j : Nat, vj = .int .i64 (j : Int) ∧ n ≤ j + gk ∧ j ≤ n ∧ Hid ((kdsOf l).isSome = (kdsOf (l.drop j)).isSome) ∧ wr = w)
  case atStart => exact ⟨0, rfl, by omega, by omega, rfl, rfl⟩
  case round =>
    obtain ⟨j, rfl, hgk, hj, hI, rfl⟩ := hrel
    by_cases hjn : j < n
    · have hx : l[j]? = some l[j] := List.getElem?_eq_getElem (by rw [← hsz.out]; exact hjn)
      have HD := Lib.hid (List.drop_eq_getElem_cons (show j < l.length by rw [← hsz.out]; exact hjn))
      have hidx : ∀ W, (Instr.index 9 (.string s) (.int .i64 (j : Int))).run Try.prog W = .ok (.int .u8 (l[j].toNat : Int)) W := fun W => by
        have hj2 : j < s.data.toList.length := by rw [← hl, ← hsz.out]; exact hjn
        have e1 : l[j]'(by rw [← hsz.out]; exact hjn) = s.data.toList[j] := by subst hl; rfl
        rw [e1, run_index_string _ 9 s .i64 (j : Int) Try.underlying9, dif_pos ⟨Int.natCast_nonneg _, by have : s.size = s.data.toList.length := rfl; omega⟩]
        rfl
      generalize l[j] = x at *
      have b1 : (j : Int) < (n : Int) := by omega
      have b2 : decide (j < n) = true := decide_eq_true hjn
      rw [hn] at b1 b2
      cases hk : kdOf x.toNat with
      | some k =>
        have hb := kdOf_byte hk
        have HN : Hid ((kdsOf l).isSome = (kdsOf (l.drop (j + 1))).isSome) := by
          rw [Hid, hI.out, HD.out, kdsOf, hk]
          cases kdsOf (l.drop (j + 1)) <;> rfl
        rw [hb] at hidx
        clear hk hb
        cases k <;> (
          simp only [Kd.byte] at hidx
          go_wp2
          go_roundg (gk - 1)
          case measure => omega
          case rel => exact ⟨j + 1, by go_num, by omega, by omega, HN.out, rfl⟩)
      | none =>
        have ht : Hid ((schemaP l).isSome = false) := by
          unfold Hid schemaP
          split
          · rw [hI.out, HD.out, kdsOf, hk]; rfl
          · rfl
        obtain ⟨h1, h2, h3, h4, h5⟩ := kdOf_no hk
        clear hk
        generalize x.toNat = y at *
        have h1' : ((y : Int) != 110) = true := by simp; omega
        have h2' : ((y : Int) != 105) = true := by simp; omega
        have h3' : ((y : Int) != 102) = true := by simp; omega
        have h4' : ((y : Int) != 98) = true := by simp; omega
        have h5' : ((y : Int) != 108) = true := by simp; omega
        go_wp2
        go_ret
        exact ⟨ret_bool ht.out.symm, rfl⟩
    · have b2 : decide (j < n) = false := decide_eq_false hjn
      have ht : Hid ((schemaP l).isSome = decide (n ≤ 64)) := by
        unfold Hid schemaP
        rw [← hsz.out]
        split
        · rw [hI.out, List.drop_of_length_le (by rw [← hsz.out]; omega)]
          simp [kdsOf]; assumption
        · simp; omega
      have b3 : decide ((n : Int) ≤ 64) = decide (n ≤ 64) := by by_cases h : n ≤ 64 <;> simp [h] <;> omega
      rw [hn] at b2 b3
      rw [hn] at ht
      have HB3 := Lib.hid b3
      clear b3
      go_wp2
      go_ret
      exact ⟨ret_bool (by rw [ht.out, ← HB3.out]; try rfl), rfl⟩
end Go.Proofs.Ytiommdidkhohgaa.Wire
