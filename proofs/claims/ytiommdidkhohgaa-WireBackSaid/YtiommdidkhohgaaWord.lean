/- Words of numbers, plainly: put, and what bytes begin with. -/
import Derived.Test.YtiommdidkhohgaaWords
namespace Go.Proofs.Ytiommdidkhohgaa.Word
set_option linter.unusedVariables false
set_option linter.unusedSimpArgs false

def p64 : Nat := 18446744073709551616
/-- a number's word, of f digits at most -/
def putF : Nat → Nat → List UInt8
  | 0, _ => []
  | f + 1, n => if n < 128 then [UInt8.ofNat n] else UInt8.ofNat (n % 128 + 128) :: putF f (n / 128)
def putW (n : Nat) : List UInt8 := putF 10 n
/-- the number that digits are -/
def valL : List UInt8 → Nat
  | [] => 0
  | d :: l => d.toNat % 128 + 128 * valL l

theorem putF_more : ∀ (f n : Nat), n < 128 ^ (f + 1) → putF (f + 2) n = putF (f + 1) n
  | 0, n, h => by
    have h' : n < 128 := by simpa using h
    simp only [putF, if_pos h']
  | f + 1, n, h => by
    have e : ∀ k, putF (k + 1) n = if n < 128 then [UInt8.ofNat n] else UInt8.ofNat (n % 128 + 128) :: putF k (n / 128) := fun _ => rfl
    rw [e (f + 2), e (f + 1)]
    split
    · rfl
    · congr 1
      refine putF_more f (n / 128) ?_
      rw [Nat.pow_succ] at h
      exact (Nat.div_lt_iff_lt_mul (by omega)).2 h
theorem putW_small {n : Nat} (h : n < 128) : putW n = [UInt8.ofNat n] := by simp only [putW, putF, if_pos h]
theorem putW_more {n : Nat} (h : ¬ n < 128) (hn : n < 128 ^ 10) : putW n = UInt8.ofNat (n % 128 + 128) :: putW (n / 128) := by
  unfold putW
  rw [putF, if_neg h]
  congr 1
  refine (putF_more 8 (n / 128) ?_).symm
  exact (Nat.div_lt_iff_lt_mul (by omega)).2 (by rw [← Nat.pow_succ]; exact hn)
theorem div_lt {n : Nat} (hn : n < 128 ^ 10) : n / 128 < 128 ^ 10 := Nat.lt_of_le_of_lt (Nat.div_le_self _ _) hn
theorem p64_lt {n : Nat} (hn : n < p64) : n < 128 ^ 10 := Nat.lt_trans hn (by decide)

/-- digits: all but the last one are 128 or more -/
def Shaped : List UInt8 → Prop
  | [] => False
  | [d] => d.toNat < 128
  | d :: e :: l => 128 ≤ d.toNat ∧ Shaped (e :: l)
theorem Shaped.cons {d : UInt8} {l : List UInt8} (hd : 128 ≤ d.toNat) (hl : Shaped l) : Shaped (d :: l) := by
  cases l with
  | nil => exact hl.elim
  | cons e l => exact ⟨hd, hl⟩
theorem ofNat_lo {n : Nat} (h : n < 128) : (UInt8.ofNat n).toNat = n := by rw [UInt8.toNat_ofNat']; omega
theorem ofNat_hi (n : Nat) : (UInt8.ofNat (n % 128 + 128)).toNat = n % 128 + 128 := by rw [UInt8.toNat_ofNat']; omega

theorem put_shape : ∀ (f n : Nat), n < 128 ^ (f + 1) → Shaped (putF (f + 1) n) ∧ valL (putF (f + 1) n) = n ∧ (putF (f + 1) n).length ≤ f + 1
  | 0, n, h => by
    have h' : n < 128 := by simpa using h
    simp only [putF, if_pos h', Shaped, valL, ofNat_lo h', List.length_singleton]
    exact ⟨h', by omega, by omega⟩
  | f + 1, n, h => by
    rw [putF]
    split
    · rename_i h'
      simp only [Shaped, valL, ofNat_lo h', List.length_singleton]
      exact ⟨h', by omega, by omega⟩
    · have hd : n / 128 < 128 ^ (f + 1) := (Nat.div_lt_iff_lt_mul (by omega)).2 (by rw [← Nat.pow_succ]; exact h)
      obtain ⟨i1, i2, i3⟩ := put_shape f (n / 128) hd
      refine ⟨i1.cons (by rw [ofNat_hi]; omega), ?_, by simp only [List.length_cons]; omega⟩
      rw [valL, i2, ofNat_hi]
      omega
theorem putW_shape {n : Nat} (h : n < 128 ^ 10) : Shaped (putW n) := (put_shape 9 n h).1
theorem putW_val {n : Nat} (h : n < 128 ^ 10) : valL (putW n) = n := (put_shape 9 n h).2.1
theorem putW_len {n : Nat} (h : n < 128 ^ 10) : (putW n).length ≤ 10 := (put_shape 9 n h).2.2
theorem putW_ne {n : Nat} (h : n < 128 ^ 10) : putW n ≠ [] := by
  intro e
  have := putW_shape h
  rw [e] at this
  exact this
theorem putW_pos {n : Nat} (h : n < 128 ^ 10) : 1 ≤ (putW n).length := by
  have := putW_ne h
  cases hp : putW n with
  | nil => exact absurd hp this
  | cons a l => simp

/-- where the first digit below 128 stands -/
def lowIdx : List UInt8 → Option Nat
  | [] => none
  | d :: r => if d.toNat < 128 then some 0 else (lowIdx r).map (· + 1)
theorem lowIdx_lt : ∀ (l : List UInt8) (i : Nat), lowIdx l = some i → i < l.length
  | [], i, h => by cases h
  | d :: r, i, h => by
    unfold lowIdx at h
    split at h
    · injection h with h; subst h; simp
    · cases hr : lowIdx r with
      | none => rw [hr] at h; cases h
      | some k =>
        rw [hr] at h
        injection h with h
        subst h
        have := lowIdx_lt r k hr
        simp; omega
theorem lowIdx_shape : ∀ (l : List UInt8) (i : Nat), lowIdx l = some i → Shaped (l.take (i + 1))
  | [], i, h => by cases h
  | d :: r, i, h => by
    unfold lowIdx at h
    split at h
    · rename_i hd
      injection h with h; subst h
      simpa [Shaped] using hd
    · rename_i hd
      cases hr : lowIdx r with
      | none => rw [hr] at h; cases h
      | some k =>
        rw [hr] at h
        injection h with h
        subst h
        exact (lowIdx_shape r k hr).cons (by omega)
theorem shape_lowIdx : ∀ (t r : List UInt8), Shaped t → lowIdx (t ++ r) = some (t.length - 1)
  | [], r, h => h.elim
  | [d], r, h => by
    have h' : d.toNat < 128 := h
    simp [lowIdx, h']
  | d :: e :: l, r, h => by
    have h1 : ¬ d.toNat < 128 := by have := h.1; omega
    rw [List.cons_append, lowIdx, if_neg h1, shape_lowIdx (e :: l) r h.2]
    simp

/-- digits of their number's own length are its word -/
theorem canon : ∀ (t : List UInt8), Shaped t → t.length ≤ 10 → valL t < 128 ^ 10 ∧ ((putW (valL t)).length = t.length → putW (valL t) = t) := by
  have key : ∀ (t : List UInt8) (f : Nat), Shaped t → t.length ≤ f → valL t < 128 ^ f := by
    intro t
    induction t with
    | nil => intro f h _; exact h.elim
    | cons d l ih =>
      intro f h hf
      cases f with
      | zero => simp at hf
      | succ f =>
        have hd : d.toNat % 128 < 128 := Nat.mod_lt _ (by omega)
        cases l with
        | nil => simp only [valL, Nat.pow_succ]; have : 0 < 128 ^ f := Nat.pow_pos (by omega); omega
        | cons e l =>
          have := ih f h.2 (by simpa using hf)
          rw [valL, Nat.pow_succ]
          omega
  intro t h hl
  refine ⟨key t 10 h hl, ?_⟩
  induction t with
  | nil => exact h.elim
  | cons d l ih =>
    intro hlen
    cases l with
    | nil =>
      have hd : d.toNat < 128 := h
      have e : valL [d] = d.toNat := by simp only [valL]; omega
      rw [e, putW_small hd, UInt8.ofNat_toNat]
    | cons e l =>
      have hv : valL (d :: e :: l) < 128 ^ 10 := key _ 10 h hl
      by_cases hs : valL (d :: e :: l) < 128
      · rw [putW_small hs] at hlen
        simp at hlen
      · have hdt : d.toNat < 256 := UInt8.toNat_lt d
        have hd1 : 128 ≤ d.toNat := h.1
        have e1 : valL (d :: e :: l) / 128 = valL (e :: l) := by rw [valL]; omega
        have e2 : valL (d :: e :: l) % 128 + 128 = d.toNat := by rw [valL]; omega
        rw [putW_more hs hv, e1, e2] at hlen ⊢
        rw [UInt8.ofNat_toNat, ih h.2 (by simp at hl ⊢; omega) (by simpa using hlen)]

/-- the number with whose word bytes begin, and how many bytes that has -/
def getW (l : List UInt8) : Option (Nat × Nat) :=
  match lowIdx l with
  | none => none
  | some i => if i ≤ 9 ∧ valL (l.take (i + 1)) < p64 ∧ putW (valL (l.take (i + 1))) = l.take (i + 1) then some (valL (l.take (i + 1)), i + 1) else none

theorem get_put {n : Nat} (h : n < p64) (r : List UInt8) : getW (putW n ++ r) = some (n, (putW n).length) := by
  have hn := p64_lt h
  have hp := putW_pos hn
  have hl := putW_len hn
  have hi := shape_lowIdx (putW n) r (putW_shape hn)
  have ht : (putW n ++ r).take ((putW n).length - 1 + 1) = putW n := by
    rw [show (putW n).length - 1 + 1 = (putW n).length from by omega]; exact List.take_left
  unfold getW
  rw [hi]
  simp only
  rw [ht, putW_val hn, if_pos ⟨by omega, h, rfl⟩, show (putW n).length - 1 + 1 = (putW n).length from by omega]
theorem get_some {l : List UInt8} {n k : Nat} (h : getW l = some (n, k)) : n < p64 ∧ k = (putW n).length ∧ l.take k = putW n ∧ k ≤ l.length ∧ 1 ≤ k ∧ k ≤ 10 := by
  unfold getW at h
  cases hi : lowIdx l with
  | none => rw [hi] at h; cases h
  | some i =>
    rw [hi] at h
    simp only at h
    split at h
    · rename_i hc
      injection h with h
      injection h with h1 h2
      have hlt := lowIdx_lt l i hi
      subst h2
      rw [← h1]
      refine ⟨hc.2.1, ?_, hc.2.2.symm, by omega, by omega, by omega⟩
      rw [hc.2.2, List.length_take]; omega
    · cases h
/-- a form without its last bytes is none -/
theorem get_torn {n : Nat} (h : n < p64) {m : Nat} (hm : m < (putW n).length) : getW ((putW n).take m) = none := by
  cases hg : getW ((putW n).take m) with
  | none => rfl
  | some x =>
    exfalso
    obtain ⟨a, k⟩ := x
    have hs := get_some hg
    have h2 := get_put h []
    rw [List.append_nil] at h2
    have hk : k ≤ m := by have := hs.2.2.2.1; rw [List.length_take] at this; omega
    have hpre : putW n = putW a ++ (putW n).drop k := by
      have h3 := hs.2.2.1
      rw [List.take_take, Nat.min_eq_left hk] at h3
      rw [← h3, List.take_append_drop]
    have h3 := get_put hs.1 ((putW n).drop k)
    rw [← hpre, h2] at h3
    injection h3 with h3
    injection h3 with h4 h5
    have := hs.2.1
    omega

/-! ### numbers with a sign -/
def foldZ (i : Int) : Nat := if i < 0 then 2 * (-(i + 1)).toNat + 1 else 2 * i.toNat
def unfoldZ (n : Nat) : Int := if n % 2 = 0 then ((n / 2 : Nat) : Int) else -1 - ((n / 2 : Nat) : Int)
theorem unfold_fold (i : Int) : unfoldZ (foldZ i) = i := by
  unfold unfoldZ foldZ
  split <;> split <;> omega
theorem fold_unfold (n : Nat) : foldZ (unfoldZ n) = n := by
  unfold unfoldZ foldZ
  split <;> split <;> omega
theorem fold_lt {i : Int} (h1 : -9223372036854775808 ≤ i) (h2 : i ≤ 9223372036854775807) : foldZ i < p64 := by
  unfold foldZ p64
  split <;> omega
theorem unfold_bd {n : Nat} (h : n < p64) : -9223372036854775808 ≤ unfoldZ n ∧ unfoldZ n ≤ 9223372036854775807 := by
  unfold unfoldZ
  unfold p64 at h
  split <;> omega
end Go.Proofs.Ytiommdidkhohgaa.Word
