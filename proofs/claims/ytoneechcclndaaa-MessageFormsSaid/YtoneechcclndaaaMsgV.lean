/- message, plainly: a form has at most 80 bytes. -/
import Derived.Test.YtoneechcclndaaaMsgU
namespace Go.Proofs.Ytoneechcclndaaa.Msg
open Go.Proofs.Ytoneechcclndaaa.Word Go.Proofs.Ytoneechcclndaaa.Wire Go.Proofs.Ytoneechcclndaaa.lawTorn
set_option linter.unusedVariables false
set_option linter.unusedSimpArgs false

theorem putF_le : ∀ (f j n : Nat), 1 ≤ j → n < 128 ^ j → (putF f n).length ≤ j
  | 0, j, n, hj, h => by simp [putF]; try omega
  | f + 1, j, n, hj, h => by
    rw [putF]
    split
    · simp; omega
    · rename_i h128
      cases j with
      | zero => omega
      | succ j =>
        have h1 : n / 128 < 128 ^ j := by rw [Nat.div_lt_iff_lt_mul (by decide)]; rw [Nat.pow_succ] at h; exact h
        have hj1 : 1 ≤ j := by
          cases j with
          | zero => simp at h; omega
          | succ j => omega
        have := putF_le f j (n / 128) hj1 h1
        simp
        omega
theorem putW_6 {n : Nat} (h : n ≤ 1101659111424) : (putW n).length ≤ 6 := putF_le 10 6 n (by decide) (by omega)
theorem putW_1 {n : Nat} (h : n < 128) : (putW n).length = 1 := by rw [putW_small h]; rfl
theorem print_80 {m : Ms} (h : mayB m = true) : (printM m).1.length ≤ 80 := by
  obtain ⟨k, hk, hm, hp⟩ := print_ok h
  have ha := mayK_all hm
  rw [hp]
  obtain ⟨kk, cl, ep, wd, sq, la, bs⟩ := m
  simp only at ha hk ⊢
  have h1 : (putW kk).length = 1 := putW_1 (by rcases kk_cases hk with ⟨h, _⟩ | ⟨h, _⟩ | ⟨h, _⟩ | ⟨h, _⟩ | ⟨h, _⟩ <;> omega)
  have h2 : (putW cl.toNat).length = 1 := putW_1 (by omega)
  have h3 : (putW ep.toNat).length ≤ 6 := putW_6 (by omega)
  rcases kk_cases hk with ⟨rfl, rfl⟩ | ⟨rfl, rfl⟩ | ⟨rfl, rfl⟩ | ⟨rfl, rfl⟩ | ⟨rfl, rfl⟩ <;> (
    simp at ha
    have h4 : (putW (wd + sq).toNat).length ≤ 6 := putW_6 (by omega)
    have h5 : bs.length ≤ 48 → (putW bs.length).length = 1 := fun h => putW_1 (by omega)
    cases la <;> simp [ksS, valsK, vals6, schS, putS, putK, nV, h1, h2] <;> omega)
end Go.Proofs.Ytoneechcclndaaa.Msg
