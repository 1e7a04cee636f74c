/- plain laws of the document's Get: the digits are put together from the first one on, round p64. -/
import Derived.Test.YtiommdidkhohgaaWordG
namespace Go.Proofs.Ytiommdidkhohgaa.Word
set_option linter.unusedVariables false
set_option linter.unusedSimpArgs false

theorem val_snoc : ∀ (s : List UInt8) (d : UInt8), valL (s ++ [d]) = valL s + d.toNat % 128 * 128 ^ s.length
  | [], d => by simp [valL]
  | a :: s, d => by
    rw [List.cons_append, valL, valL, val_snoc s d, List.length_cons, Nat.pow_succ]
    rw [Nat.mul_add, Nat.add_assoc, show 128 * (d.toNat % 128 * 128 ^ s.length) = d.toNat % 128 * (128 ^ s.length * 128) from by rw [← Nat.mul_assoc, Nat.mul_comm 128, Nat.mul_assoc, Nat.mul_comm 128]]
theorem take_snoc {l : List UInt8} {i : Nat} {d : UInt8} (h : l[i]? = some d) : l.take (i + 1) = l.take i ++ [d] := by rw [List.take_add_one, h]; rfl
theorem rget_end {l : List UInt8} {i : Nat} (h : lowIdx l = (lowIdx (l.drop i)).map (· + i)) (hi : 10 ≤ i ∨ l.length ≤ i) : getW l = none := by
  cases hd : lowIdx (l.drop i) with
  | none => rw [hd] at h; exact by unfold getW; rw [h]; rfl
  | some k =>
    rw [hd] at h
    have h2 := lowIdx_lt _ _ hd
    rw [List.length_drop] at h2
    unfold getW
    rw [h]
    simp only [Option.map_some]
    rw [if_neg]
    rintro ⟨h3, _⟩
    omega
theorem rget_next {l : List UInt8} {i : Nat} {d : UInt8} (h : lowIdx l = (lowIdx (l.drop i)).map (· + i)) (hx : l[i]? = some d) (hd : ¬ d.toNat < 128) : lowIdx l = (lowIdx (l.drop (i + 1))).map (· + (i + 1)) := by
  rw [h, lowIdx_drop hx, if_neg hd, Option.map_map]
  congr 1
  funext k
  simp only [Function.comp]
  omega
theorem rget_low {l : List UInt8} {i : Nat} {d : UInt8} (h : lowIdx l = (lowIdx (l.drop i)).map (· + i)) (hx : l[i]? = some d) (hd : d.toNat < 128) (hi : i ≤ 9) {v : Nat} (hv : v = valL (l.take (i + 1)) % p64) :
    getW l = if putW v = l.take (i + 1) then some (v, i + 1) else none := by
  rw [lowIdx_drop hx, if_pos hd] at h
  simp only [Option.map_some, Nat.zero_add] at h
  unfold getW
  rw [h]
  simp only
  by_cases hp : valL (l.take (i + 1)) < p64
  · rw [Nat.mod_eq_of_lt hp] at hv
    subst hv
    by_cases he : putW (valL (l.take (i + 1))) = l.take (i + 1)
    · rw [if_pos ⟨hi, hp, he⟩, if_pos he]
    · rw [if_neg (fun hh => he hh.2.2), if_neg he]
  · rw [if_neg (fun hh => hp hh.2.1), if_neg]
    intro he
    have hlt : v < p64 := by rw [hv]; exact Nat.mod_lt _ (by decide)
    have h2 := putW_val (p64_lt hlt)
    rw [he] at h2
    omega
/-- one round's sums, round p64 -/
theorem rget_sum {l : List UInt8} {i : Nat} {d : UInt8} (hx : l[i]? = some d) : (valL (l.take i) % p64 + d.toNat % 128 * (128 ^ i % p64)) % p64 = valL (l.take (i + 1)) % p64 := by
  have hl : (l.take i).length = i := by rw [List.length_take]; have := (List.getElem?_eq_some_iff.1 hx).1; omega
  rw [take_snoc hx, val_snoc, hl]
  rw [Nat.add_mod, Nat.mod_mod, Nat.mul_mod, Nat.mod_mod, ← Nat.mul_mod, ← Nat.add_mod]
theorem rget_unit (i : Nat) : 128 ^ i % p64 * 128 % p64 = 128 ^ (i + 1) % p64 := by
  rw [Nat.pow_succ, Nat.mul_mod, Nat.mod_mod, ← Nat.mul_mod]
end Go.Proofs.Ytiommdidkhohgaa.Word
