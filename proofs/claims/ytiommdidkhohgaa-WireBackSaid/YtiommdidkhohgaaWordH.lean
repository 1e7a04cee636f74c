/- what words.Get reckons, plainly. -/
import Derived.Test.YtiommdidkhohgaaWordG
import Derived.Laws.Bits64b
namespace Go.Proofs.Ytiommdidkhohgaa.Word
set_option linter.unusedVariables false
set_option linter.unusedSimpArgs false

theorem val_append : ∀ (p s : List UInt8), valL s ≤ valL (p ++ s)
  | [], s => Nat.le_refl _
  | d :: p, s => by
    have := val_append p s
    rw [List.cons_append, valL]
    omega
/-- a digit more ahead of a number that is too great -/
theorem val_over (p : List UInt8) (d : UInt8) (s : List UInt8) (h : 144115188075855872 ≤ valL s) : p64 ≤ valL (p ++ d :: s) := by
  refine Nat.le_trans ?_ (val_append p (d :: s))
  rw [valL]
  unfold p64
  omega
theorem val_under (d : UInt8) (s : List UInt8) (h : valL s < 144115188075855872) : valL (d :: s) < p64 := by
  rw [valL]
  unfold p64
  have := Nat.mod_lt d.toNat (show 0 < 128 by omega)
  omega
theorem get_none {l : List UInt8} (h : lowIdx l = none) : getW l = none := by unfold getW; rw [h]
theorem get_far {l : List UInt8} {i : Nat} (h : lowIdx l = some i) (hi : 9 < i) : getW l = none := by
  unfold getW; rw [h]; simp only; rw [if_neg (by omega)]
theorem get_over {l : List UInt8} {i : Nat} (h : lowIdx l = some i) (hv : p64 ≤ valL (l.take (i + 1))) : getW l = none := by
  unfold getW; rw [h]; simp only; rw [if_neg (by omega)]
theorem get_length {l : List UInt8} {i : Nat} (h : lowIdx l = some i) (hi : i ≤ 9) (hv : valL (l.take (i + 1)) < p64) :
    getW l = if (putW (valL (l.take (i + 1)))).length = i + 1 then some (valL (l.take (i + 1)), i + 1) else none := by
  have hs := lowIdx_shape l i h
  have hl := lowIdx_lt l i h
  have hlen : (l.take (i + 1)).length = i + 1 := by rw [List.length_take]; omega
  have hc := (canon _ hs (by omega)).2
  unfold getW
  rw [h]
  simp only
  by_cases e : (putW (valL (l.take (i + 1)))).length = i + 1
  · rw [if_pos e, if_pos ⟨hi, hv, hc (by rw [e, hlen])⟩]
  · rw [if_neg e, if_neg]
    rintro ⟨_, _, h3⟩
    exact e (by rw [h3, hlen])
/-- n << 7 | d & 127 -/
theorem join7 (v : Nat) (d : UInt8) (h : v < 144115188075855872) : bits .or .u64 ((v * 128 : Nat) : Int) ((d.toNat % 128 : Nat) : Int) = ((d.toNat % 128 + 128 * v : Nat) : Int) := by
  have hd := Nat.mod_lt d.toNat (show 0 < 128 by omega)
  rw [bits_or_u64_nat _ _ (by omega) (by omega)]
  congr 1
  have := Nat.two_pow_add_eq_or_of_lt (i := 7) (b := d.toNat % 128) (by omega) v
  rw [show v * 128 = 2 ^ 7 * v from by omega, ← this]
  omega
end Go.Proofs.Ytiommdidkhohgaa.Word
