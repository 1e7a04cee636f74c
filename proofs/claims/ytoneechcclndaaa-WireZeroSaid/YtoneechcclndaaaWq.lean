/- math/bits.Len64, words.Size.
slices.IndexFunc over bytes, of words.Get's own test.
what words.Get reckons, plainly.
words.Get of the program.
words.Get: what its rounds keep; a slice cut at both ends.
words.Get of the program, whole.
plain laws of the document's Get: the digits are put together from the first one on, round p64. -/
import Derived.Test.YtoneechcclndaaaWo
import Derived.Outline
import Derived.BigQuiet
import Derived.Deep.QuietTactic
import Derived.Deep.RegionWith
import Derived.Deep.RegionHeld3
import Derived.Deep.DrawnRows
import Derived.Deep.LoopGhost
import Derived.Deep.DeepCutAuto
import Derived.Laws.EntriesVeiled
import Derived.Laws.Bits64b
namespace Go.Proofs.Ytoneechcclndaaa.Word
open Go.RowKit Go.ChangeShapes Go.WideShapes Go.ChangeAt
set_option linter.unusedVariables false
set_option linter.unusedSimpArgs false
attribute [local go_sem ↓] Go.wp_at_zero Go.wp_at_succ

def blen (n : Nat) : Nat := if n = 0 then 0 else Nat.log2 n + 1
theorem blen_half (n : Nat) (h : 0 < n) : blen n = blen (n / 2) + 1 := by
  unfold blen
  rw [if_neg (by omega), Nat.log2_def]
  by_cases h1 : 2 ≤ n
  · rw [if_pos h1, if_neg (by omega)]
  · have : n = 1 := by omega
    subst this; rfl
theorem blen_shift : ∀ (k n : Nat), 2 ^ k ≤ n → blen n = blen (n / 2 ^ k) + k
  | 0, n, h => by simp
  | k + 1, n, h => by
    have h2 : 2 ^ k ≤ n / 2 := by rw [Nat.pow_succ] at h; omega
    have hp : 0 < 2 ^ k := Nat.two_pow_pos k
    rw [blen_half n (by omega), blen_shift k (n / 2) h2, Nat.div_div_eq_div_mul, Nat.pow_succ, Nat.mul_comm 2]
    omega
theorem blen_small : ∀ n : Fin 128, 1 ≤ max 1 ((blen n.val + 6) / 7) ∧ max 1 ((blen n.val + 6) / 7) ≤ 1 := by decide +kernel
theorem size_put : ∀ f n : Nat, n < 128 ^ (f + 1) → max 1 ((blen n + 6) / 7) = (putF (f + 1) n).length
  | 0, n, h => by
    have h' : n < 128 := by simpa using h
    have := blen_small ⟨n, h'⟩
    simp only [putF, if_pos h', List.length_singleton]
    simp only at this
    omega
  | f + 1, n, h => by
    rw [putF]
    by_cases h' : n < 128
    · have := blen_small ⟨n, h'⟩
      simp only at this
      rw [if_pos h', List.length_singleton]
      omega
    · rw [if_neg h', List.length_cons, ← size_put f (n / 128) ((Nat.div_lt_iff_lt_mul (by omega)).2 (by rw [← Nat.pow_succ]; exact h)), blen_shift 7 n (by omega)]
      have : 1 ≤ blen (n / 2 ^ 7) := by
        have : 0 < n / 2 ^ 7 := Nat.div_pos (by omega) (by decide)
        rw [blen_half _ this]; omega
      show max 1 ((blen (n / 2 ^ 7) + 7 + 6) / 7) = max 1 ((blen (n / 2 ^ 7) + 6) / 7) + 1
      omega

set_option maxRecDepth 100000 in
set_option maxHeartbeats 2000000 in
theorem len64_any (n : Nat) (hn : n < p64) (w : World) : Calls Try.prog 127 #[.int .u64 (n : Int)] w fun e w' => e = .returned (.int .i64 (blen n : Int)) ∧ w = w' := by
  have hsh : ∀ (m k : Nat), k ≤ 64 → Op.shift .shr .u64 (m : Int) .u64 (k : Int) = pure (.int .u64 ((m / 2 ^ k : Nat) : Int)) := fun m k hk =>
    (shift_shr .u64 .u64 _ _ (by omega) (by show (k : Int) ≤ 64; omega)).trans (by simp)
  unfold p64 at hn
  by_cases c1 : (4294967296 : Int) ≤ (n : Int)
  · obtain ⟨x1, hx1⟩ : ∃ x1 : Nat, x1 = n / 2 ^ 32 := ⟨_, rfl⟩
    have s1 : Op.shift .shr .u64 (n : Int) .u64 32 = pure (.int .u64 (x1 : Int)) := by rw [hx1]; exact hsh n 32 (by decide)
    have b1 : blen n = blen x1 + 32 := by rw [hx1]; exact blen_shift 32 n (by omega)
    by_cases c2 : (65536 : Int) ≤ (x1 : Int)
    · obtain ⟨x2, hx2⟩ : ∃ x2 : Nat, x2 = x1 / 2 ^ 16 := ⟨_, rfl⟩
      have s2 : Op.shift .shr .u64 (x1 : Int) .u64 16 = pure (.int .u64 (x2 : Int)) := by rw [hx2]; exact hsh x1 16 (by decide)
      have b2 : blen x1 = blen x2 + 16 := by rw [hx2]; exact blen_shift 16 x1 (by omega)
      by_cases c3 : (256 : Int) ≤ (x2 : Int)
      · obtain ⟨x3, hx3⟩ : ∃ x3 : Nat, x3 = x2 / 2 ^ 8 := ⟨_, rfl⟩
        have s3 : Op.shift .shr .u64 (x2 : Int) .u64 8 = pure (.int .u64 (x3 : Int)) := by rw [hx3]; exact hsh x2 8 (by decide)
        have b3 : blen x2 = blen x3 + 8 := by rw [hx3]; exact blen_shift 8 x2 (by omega)
        have hz : (x3 : Int) < 256 := by omega
        have hz0 : (0 : Int) ≤ (x3 : Int) := Int.natCast_nonneg _
        have hzn : x3 < 256 := by omega
        have HB : Hid (blen n = blen x3 + 56) := by unfold Hid; omega
        have HZ := Lib.hid hzn
        clear hzn hn hsh hx1 b1 hx2 b2 hx3 b3
        go_enter Try.func127, Try.ntmps127
        go_wp2
        go_ret
        refine ⟨ret_k ?_, rfl⟩
        rw [HB.out]
        have hzn := HZ.out
        obtain ⟨m, hm⟩ : ∃ m : Fin 256, x3 = m.val := ⟨⟨x3, hzn⟩, rfl⟩
        subst hm
        clear hzn HB HZ s1 s2 s3
        revert m
        decide +kernel
      · have b3 : (x2 : Int) < 256 := by omega
        have hz : (x2 : Int) < 256 := by omega
        have hz0 : (0 : Int) ≤ (x2 : Int) := Int.natCast_nonneg _
        have hzn : x2 < 256 := by omega
        have HB : Hid (blen n = blen x2 + 48) := by unfold Hid; omega
        have HZ := Lib.hid hzn
        clear hzn hn hsh hx1 b1 hx2 b2
        go_enter Try.func127, Try.ntmps127
        go_wp2
        go_ret
        refine ⟨ret_k ?_, rfl⟩
        rw [HB.out]
        have hzn := HZ.out
        obtain ⟨m, hm⟩ : ∃ m : Fin 256, x2 = m.val := ⟨⟨x2, hzn⟩, rfl⟩
        subst hm
        clear hzn HB HZ s1 s2
        revert m
        decide +kernel
    · have b2 : (x1 : Int) < 65536 := by omega
      by_cases c3 : (256 : Int) ≤ (x1 : Int)
      · obtain ⟨x3, hx3⟩ : ∃ x3 : Nat, x3 = x1 / 2 ^ 8 := ⟨_, rfl⟩
        have s3 : Op.shift .shr .u64 (x1 : Int) .u64 8 = pure (.int .u64 (x3 : Int)) := by rw [hx3]; exact hsh x1 8 (by decide)
        have b3 : blen x1 = blen x3 + 8 := by rw [hx3]; exact blen_shift 8 x1 (by omega)
        have hz : (x3 : Int) < 256 := by omega
        have hz0 : (0 : Int) ≤ (x3 : Int) := Int.natCast_nonneg _
        have hzn : x3 < 256 := by omega
        have HB : Hid (blen n = blen x3 + 40) := by unfold Hid; omega
        have HZ := Lib.hid hzn
        clear hzn hn hsh hx1 b1 hx3 b3
        go_enter Try.func127, Try.ntmps127
        go_wp2
        go_ret
        refine ⟨ret_k ?_, rfl⟩
        rw [HB.out]
        have hzn := HZ.out
        obtain ⟨m, hm⟩ : ∃ m : Fin 256, x3 = m.val := ⟨⟨x3, hzn⟩, rfl⟩
        subst hm
        clear hzn HB HZ s1 s3
        revert m
        decide +kernel
      · have b3 : (x1 : Int) < 256 := by omega
        have hz : (x1 : Int) < 256 := by omega
        have hz0 : (0 : Int) ≤ (x1 : Int) := Int.natCast_nonneg _
        have hzn : x1 < 256 := by omega
        have HB : Hid (blen n = blen x1 + 32) := by unfold Hid; omega
        have HZ := Lib.hid hzn
        clear hzn hn hsh hx1 b1
        go_enter Try.func127, Try.ntmps127
        go_wp2
        go_ret
        refine ⟨ret_k ?_, rfl⟩
        rw [HB.out]
        have hzn := HZ.out
        obtain ⟨m, hm⟩ : ∃ m : Fin 256, x1 = m.val := ⟨⟨x1, hzn⟩, rfl⟩
        subst hm
        clear hzn HB HZ s1
        revert m
        decide +kernel
  · have b1 : (n : Int) < 4294967296 := by omega
    by_cases c2 : (65536 : Int) ≤ (n : Int)
    · obtain ⟨x2, hx2⟩ : ∃ x2 : Nat, x2 = n / 2 ^ 16 := ⟨_, rfl⟩
      have s2 : Op.shift .shr .u64 (n : Int) .u64 16 = pure (.int .u64 (x2 : Int)) := by rw [hx2]; exact hsh n 16 (by decide)
      have b2 : blen n = blen x2 + 16 := by rw [hx2]; exact blen_shift 16 n (by omega)
      by_cases c3 : (256 : Int) ≤ (x2 : Int)
      · obtain ⟨x3, hx3⟩ : ∃ x3 : Nat, x3 = x2 / 2 ^ 8 := ⟨_, rfl⟩
        have s3 : Op.shift .shr .u64 (x2 : Int) .u64 8 = pure (.int .u64 (x3 : Int)) := by rw [hx3]; exact hsh x2 8 (by decide)
        have b3 : blen x2 = blen x3 + 8 := by rw [hx3]; exact blen_shift 8 x2 (by omega)
        have hz : (x3 : Int) < 256 := by omega
        have hz0 : (0 : Int) ≤ (x3 : Int) := Int.natCast_nonneg _
        have hzn : x3 < 256 := by omega
        have HB : Hid (blen n = blen x3 + 24) := by unfold Hid; omega
        have HZ := Lib.hid hzn
        clear hzn hn hsh hx2 b2 hx3 b3
        go_enter Try.func127, Try.ntmps127
        go_wp2
        go_ret
        refine ⟨ret_k ?_, rfl⟩
        rw [HB.out]
        have hzn := HZ.out
        obtain ⟨m, hm⟩ : ∃ m : Fin 256, x3 = m.val := ⟨⟨x3, hzn⟩, rfl⟩
        subst hm
        clear hzn HB HZ s2 s3
        revert m
        decide +kernel
      · have b3 : (x2 : Int) < 256 := by omega
        have hz : (x2 : Int) < 256 := by omega
        have hz0 : (0 : Int) ≤ (x2 : Int) := Int.natCast_nonneg _
        have hzn : x2 < 256 := by omega
        have HB : Hid (blen n = blen x2 + 16) := by unfold Hid; omega
        have HZ := Lib.hid hzn
        clear hzn hn hsh hx2 b2
        go_enter Try.func127, Try.ntmps127
        go_wp2
        go_ret
        refine ⟨ret_k ?_, rfl⟩
        rw [HB.out]
        have hzn := HZ.out
        obtain ⟨m, hm⟩ : ∃ m : Fin 256, x2 = m.val := ⟨⟨x2, hzn⟩, rfl⟩
        subst hm
        clear hzn HB HZ s2
        revert m
        decide +kernel
    · have b2 : (n : Int) < 65536 := by omega
      by_cases c3 : (256 : Int) ≤ (n : Int)
      · obtain ⟨x3, hx3⟩ : ∃ x3 : Nat, x3 = n / 2 ^ 8 := ⟨_, rfl⟩
        have s3 : Op.shift .shr .u64 (n : Int) .u64 8 = pure (.int .u64 (x3 : Int)) := by rw [hx3]; exact hsh n 8 (by decide)
        have b3 : blen n = blen x3 + 8 := by rw [hx3]; exact blen_shift 8 n (by omega)
        have hz : (x3 : Int) < 256 := by omega
        have hz0 : (0 : Int) ≤ (x3 : Int) := Int.natCast_nonneg _
        have hzn : x3 < 256 := by omega
        have HB : Hid (blen n = blen x3 + 8) := by unfold Hid; omega
        have HZ := Lib.hid hzn
        clear hzn hn hsh hx3 b3
        go_enter Try.func127, Try.ntmps127
        go_wp2
        go_ret
        refine ⟨ret_k ?_, rfl⟩
        rw [HB.out]
        have hzn := HZ.out
        obtain ⟨m, hm⟩ : ∃ m : Fin 256, x3 = m.val := ⟨⟨x3, hzn⟩, rfl⟩
        subst hm
        clear hzn HB HZ s3
        revert m
        decide +kernel
      · have b3 : (n : Int) < 256 := by omega
        have hz : (n : Int) < 256 := by omega
        have hz0 : (0 : Int) ≤ (n : Int) := Int.natCast_nonneg _
        have hzn : n < 256 := by omega
        have HB : Hid (blen n = blen n + 0) := by unfold Hid; omega
        have HZ := Lib.hid hzn
        clear hzn hn hsh
        go_enter Try.func127, Try.ntmps127
        go_wp2
        go_ret
        refine ⟨ret_k ?_, rfl⟩
        rw [HB.out]
        have hzn := HZ.out
        obtain ⟨m, hm⟩ : ∃ m : Fin 256, n = m.val := ⟨⟨n, hzn⟩, rfl⟩
        subst hm
        clear hzn HB HZ 
        revert m
        decide +kernel

theorem size_any (n : Nat) (hn : n < p64) (w : World) : Calls Try.prog 124 #[.int .u64 (n : Int)] w fun e w' => e = .returned (.int .i64 ((putW n).length : Int)) ∧ w = w' := by
  have hs : Hid (max 1 ((blen n + 6) / 7) = (putW n).length) := size_put 9 n (p64_lt hn)
  have hl := Lib.hid (len64_any n hn)
  have hb : blen n ≤ 1000 := by
    have h1 := size_put 9 n (p64_lt hn)
    have h2 : (putF (9 + 1) n).length ≤ 10 := putW_len (p64_lt hn)
    omega
  obtain ⟨k, hk⟩ : ∃ k, blen n = k := ⟨_, rfl⟩
  rw [hk] at hl hs hb
  obtain ⟨q, hq⟩ : ∃ q : Nat, q = (k + 6) / 7 := ⟨_, rfl⟩
  have e1 : IntKind.i64.wrap ((k : Int) + 7) = (k : Int) + 7 := IntWalk.i64_in _ (by omega)
  have e2 : IntKind.i64.wrap ((k : Int) + 7 - 1) = (k : Int) + 7 - 1 := IntWalk.i64_in _ (by omega)
  have e3 : IntKind.i64.wrap (((k : Int) + 7 - 1).tdiv 7) = (q : Int) := by rw [IntWalk.i64_quo _ _ (by omega)]; omega
  have e4 : ((k : Int) + 7 - 1) / 7 = (q : Int) := by omega
  have Hq := Lib.hid hq
  have Hk := Lib.hid hk
  clear hq hk hn
  go_enter Try.func124, Try.ntmps124
  go_wp2_with (go_at_call 127; refine (hl.out _).mono ?_; rintro e w' ⟨rfl, rfl⟩)
  all_goals
    go_ret
    refine ⟨ret_k ?_, rfl⟩
    have := hs.out
    have h2 := Hq.out
    omega
end Go.Proofs.Ytoneechcclndaaa.Word

namespace Go.Proofs.Ytoneechcclndaaa.Word
open Go.RowKit Go.ChangeShapes Go.WideShapes Go.ChangeAt
set_option linter.unusedVariables false
set_option linter.unusedSimpArgs false
attribute [local go_sem ↓] Go.wp_at_zero Go.wp_at_succ

theorem lowIdx_drop {l : List UInt8} {j : Nat} {b : UInt8} (h : l[j]? = some b) : lowIdx (l.drop j) = if b.toNat < 128 then some 0 else (lowIdx (l.drop (j + 1))).map (· + 1) := by
  have hj : j < l.length := (List.getElem?_eq_some_iff.1 h).1
  have e : l.drop j = b :: l.drop (j + 1) := by
    rw [List.drop_eq_getElem_cons hj]
    congr 1
    exact (List.getElem?_eq_some_iff.1 h).2
  rw [e, lowIdx]

def lowI (l : List UInt8) : Int := match lowIdx l with | none => -1 | some i => (i : Int)

theorem lowAt (l : List UInt8) (j : Nat) (h : lowIdx l = (lowIdx (l.drop j)).map (· + j)) {b : UInt8} (hx : l[j]? = some b) :
    (b.toNat < 128 → lowI l = (j : Int)) ∧ (¬ b.toNat < 128 → lowIdx l = (lowIdx (l.drop (j + 1))).map (· + (j + 1))) := by
  rw [lowIdx_drop hx] at h
  constructor
  · intro hb
    rw [if_pos hb] at h
    unfold lowI
    rw [h]; simp
  · intro hb
    rw [if_neg hb] at h
    rw [h]
    cases lowIdx (l.drop (j + 1)) with
    | none => rfl
    | some k => simp; omega

theorem indexLow_any (l : List UInt8) (A : Option Addr) (n cap : Nat) (w : World) (hl : BySl w w.heap.size A l) (hn : Hid (n = l.length)) (hm : n ≤ 1000000000000) :
    Calls Try.prog 121 #[.slice A n cap, .func (.func 122) #[] #[]] w fun e w' => e = .returned (.int .i64 (lowI l)) ∧ w = w' := by
  go_enter Try.func121, Try.ntmps121
  go_wp2
  go_loopg [8] n (fun g vj wr => wr = w ∧ ∃ j : Nat, vj = .int .i64 (j : Int) ∧ j + g = n ∧ Hid (lowIdx l = (lowIdx (l.drop j)).map (· + j)))
  case atStart => exact ⟨rfl, 0, rfl, by omega, by rw [Hid]; simp⟩
  case round =>
    obtain ⟨rfl, j, rfl, hg, hj⟩ := hrel
    by_cases hlt : j < n
    · have hx : l[j]? = some l[j] := List.getElem?_eq_getElem (by rw [← hn.out]; omega)
      obtain ⟨bb, off, rfl, hbb, c0⟩ := BySl.at_ hl hx
      have HL := Lib.hid (lowAt l j hj.out hx)
      generalize l[j] = b at *
      have b0 : (0 : Int) ≤ (j : Int) := Int.natCast_nonneg _
      have b1 : (j : Int) < (n : Int) := by omega
      clear hx
      by_cases hb : b.toNat < 128
      · have hd : decide (b.toNat < 128) = true := by simpa using hb
        have HD := Lib.hid (HL.out.1 hb)
        have hc := fun w => low_any b w
        rw [hd] at hc
        have HC := Lib.hid hc
        clear hc hb hd
        go_wp2_with (go_at_call 122; refine (HC.out _).mono ?_; rintro e w' ⟨rfl, rfl⟩)
        go_ret
        exact ⟨ret_k HD.out.symm, rfl⟩
      · have hd : decide (b.toNat < 128) = false := by simpa using hb
        have HD := Lib.hid (HL.out.2 hb)
        have hc := fun w => low_any b w
        rw [hd] at hc
        have HC := Lib.hid hc
        clear hc hb hd
        go_wp2_with (go_at_call 122; refine (HC.out _).mono ?_; rintro e w' ⟨rfl, rfl⟩)
        go_roundg (gk - 1)
        case measure => omega
        case rel => exact ⟨rfl, j + 1, by go_num, by omega, HD.out⟩
    · have e : Hid (lowI l = -1) := by
        unfold Hid lowI
        rw [hj.out, List.drop_of_length_le (by rw [← hn.out]; omega)]; rfl
      have b1 : ¬ (j : Int) < (n : Int) := by omega
      go_wp2
      go_ret
      exact ⟨ret_k e.out.symm, rfl⟩
end Go.Proofs.Ytoneechcclndaaa.Word

namespace Go.Proofs.Ytoneechcclndaaa.Word
set_option linter.unusedVariables false
set_option linter.unusedSimpArgs false

theorem val_append : ∀ (p s : List UInt8), valL s ≤ valL (p ++ s)
  | [], s => Nat.le_refl _
  | d :: p, s => by
    have := val_append p s
    rw [List.cons_append, valL]
    omega
/-- a digit more ahead of a number that is too great -/
theorem val_over (p : List UInt8) (d : UInt8) (s : List UInt8) (h : 144115188075855872 ≤ valL s) : p64 ≤ valL (p ++ d :: s) := by
  refine Nat.le_trans ?_ (val_append p (d :: s))
  rw [valL]
  unfold p64
  omega
theorem val_under (d : UInt8) (s : List UInt8) (h : valL s < 144115188075855872) : valL (d :: s) < p64 := by
  rw [valL]
  unfold p64
  have := Nat.mod_lt d.toNat (show 0 < 128 by omega)
  omega
theorem get_none {l : List UInt8} (h : lowIdx l = none) : getW l = none := by unfold getW; rw [h]
theorem get_far {l : List UInt8} {i : Nat} (h : lowIdx l = some i) (hi : 9 < i) : getW l = none := by
  unfold getW; rw [h]; simp only; rw [if_neg (by omega)]
theorem get_over {l : List UInt8} {i : Nat} (h : lowIdx l = some i) (hv : p64 ≤ valL (l.take (i + 1))) : getW l = none := by
  unfold getW; rw [h]; simp only; rw [if_neg (by omega)]
theorem get_length {l : List UInt8} {i : Nat} (h : lowIdx l = some i) (hi : i ≤ 9) (hv : valL (l.take (i + 1)) < p64) :
    getW l = if (putW (valL (l.take (i + 1)))).length = i + 1 then some (valL (l.take (i + 1)), i + 1) else none := by
  have hs := lowIdx_shape l i h
  have hl := lowIdx_lt l i h
  have hlen : (l.take (i + 1)).length = i + 1 := by rw [List.length_take]; omega
  have hc := (canon _ hs (by omega)).2
  unfold getW
  rw [h]
  simp only
  by_cases e : (putW (valL (l.take (i + 1)))).length = i + 1
  · rw [if_pos e, if_pos ⟨hi, hv, hc (by rw [e, hlen])⟩]
  · rw [if_neg e, if_neg]
    rintro ⟨_, _, h3⟩
    exact e (by rw [h3, hlen])
/-- n << 7 | d & 127 -/
theorem join7 (v : Nat) (d : UInt8) (h : v < 144115188075855872) : bits .or .u64 ((v * 128 : Nat) : Int) ((d.toNat % 128 : Nat) : Int) = ((d.toNat % 128 + 128 * v : Nat) : Int) := by
  have hd := Nat.mod_lt d.toNat (show 0 < 128 by omega)
  rw [bits_or_u64_nat _ _ (by omega) (by omega)]
  congr 1
  have := Nat.two_pow_add_eq_or_of_lt (i := 7) (b := d.toNat % 128) (by omega) v
  rw [show v * 128 = 2 ^ 7 * v from by omega, ← this]
  omega
end Go.Proofs.Ytoneechcclndaaa.Word

namespace Go.Proofs.Ytoneechcclndaaa.Word
open Go.RowKit Go.ChangeShapes Go.WideShapes Go.ChangeAt
set_option linter.unusedVariables false
set_option linter.unusedSimpArgs false
attribute [local go_sem ↓] Go.wp_at_zero Go.wp_at_succ
attribute [local go_sem] Oper.semAt_some
open Go.Shelf

/-- what a word at a place tells -/
def getAt (l : List UInt8) (at' : Int) : Option (Nat × Nat) := if at' < 0 ∨ (l.length : Int) ≤ at' then none else getW (l.drop at'.toNat)
def getV : Option (Nat × Nat) → Value
  | none => .tuple #[.int .u64 0, .int .i64 0, .bool false]
  | some (x, k) => .tuple #[.int .u64 (x : Int), .int .i64 (k : Int), .bool true]

theorem get_out (l : List UInt8) (A : Option Addr) (n cap : Nat) (at' : Int) (w : World) (hn : Hid (n = l.length)) (h : at' < 0 ∨ (n : Int) ≤ at') :
    Calls Try.prog 113 #[.slice A n cap, .int .i64 at'] w fun e w' => e = .returned (getV (getAt l at')) ∧ Below w.heap.size w w' := by
  have hg : Hid (getAt l at' = none) := by unfold Hid getAt; rw [if_pos (by rw [← hn.out]; exact h)]
  by_cases h1 : at' < 0
  · go_enter Try.func113, Try.ntmps113
    go_wp2
    refine bodyPost_ret (v := getV none) ?_ rfl ⟨by rw [hg.out], (by repeat (first | exact Below.refl _ _ | assumption | refine Below.drew ?_ | refine bdrewN ?_ _ | refine Below.alloc ?_ (by simp; try omega) _ | refine Below.setCell ?_ (by simp; try omega) _))⟩
    simp [results, Try.results113, go_sem, getV]
  · have h2 : (n : Int) ≤ at' := by omega
    go_enter Try.func113, Try.ntmps113
    go_wp2
    refine bodyPost_ret (v := getV none) ?_ rfl ⟨by rw [hg.out], (by repeat (first | exact Below.refl _ _ | assumption | refine Below.drew ?_ | refine bdrewN ?_ _ | refine Below.alloc ?_ (by simp; try omega) _ | refine Below.setCell ?_ (by simp; try omega) _))⟩
    simp [results, Try.results113, go_sem, getV]
end Go.Proofs.Ytoneechcclndaaa.Word

namespace Go.Proofs.Ytoneechcclndaaa.Word
open Go.RowKit Go.ChangeShapes Go.WideShapes Go.ChangeAt
set_option linter.unusedVariables false
set_option linter.unusedSimpArgs false
attribute [local go_sem ↓] Go.wp_at_zero Go.wp_at_succ

theorem run_slice_lohi {P : Program} {t e : TypeId} {c : Nat} (ht : P.underlying t = some (.slice e)) (hi : ∃ i, P.info? e = some i) (hc : P.cellsOf e = c) (A : Option Addr) (n cap : Nat) (k m : Int) (h0 : 0 ≤ k) (h1 : k ≤ m) (h2 : m ≤ (cap : Int)) (W : World) :
    (Instr.slice t (.slice A n cap) (some (.int .i64 k)) (some (.int .i64 m)) none).run P W = .ok (.slice (cutA A cap k.toNat c) (m.toNat - k.toNat) (cap - k.toNat)) W := by
  obtain ⟨i, hi⟩ := hi
  subst hc
  have hm : (m.toNat : Int) = m := Int.toNat_of_nonneg (by omega)
  unfold Instr.slice Instr.sliceBounds Instr.sliceBound
  simp only [Sem.run_bind, run_underlying ht, Result.andThen_ok, Sem.run_pure, asIntOf, if_pos (And.intro (show 0 ≤ m by omega) h2), hm, if_pos (And.intro h0 h1), run_sizeOf _ hi]
  rfl

/-- what the rounds of Get keep -/
structure GetI (w : World) (pre : List (Int × UInt8)) (W : World) : Prop where
  r0 : Blk W w.heap.size 34 #[.int .u64 0]
  r1 : Blk W (w.heap.size + 1) 3 #[.int .i64 0]
  r2 : Blk W (w.heap.size + 2) 4 #[.bool false]
  nb : Blk W (w.heap.size + 3) 34 #[.int .u64 (valL (pre.map Prod.snd).reverse : Int)]
  lt : valL (pre.map Prod.snd).reverse < p64
  be : Below w.heap.size w W
/-- how Get is left amid its rounds -/
structure GetX (w : World) (W : World) : Prop where
  r0 : Blk W w.heap.size 34 #[.int .u64 0]
  r1 : Blk W (w.heap.size + 1) 3 #[.int .i64 0]
  r2 : Blk W (w.heap.size + 2) 4 #[.bool false]
  be : Below w.heap.size w W
theorem GetI.chg {w W W' : World} {S : Nat → Prop} {pre : List (Int × UInt8)} (h : GetI w pre W) (hc : Chg S W W') (hn : ∀ k, S k → w.heap.size + 4 ≤ k) : GetI w pre W' :=
  have no : ∀ k, k < w.heap.size + 4 → ¬ S k := fun k hk hs => by have := hn k hs; omega
  ⟨h.r0.chg hc (no _ (by omega)), h.r1.chg hc (no _ (by omega)), h.r2.chg hc (no _ (by omega)), h.nb.chg hc (no _ (by omega)), h.lt, h.be.trans (hc.below h.be.size (fun i hi hs => by have := hn i hs; omega))⟩
theorem GetX.chg {w W W' : World} {S : Nat → Prop} (h : GetX w W) (hc : Chg S W W') (hn : ∀ k, S k → w.heap.size + 4 ≤ k) : GetX w W' :=
  have no : ∀ k, k < w.heap.size + 4 → ¬ S k := fun k hk hs => by have := hn k hs; omega
  ⟨h.r0.chg hc (no _ (by omega)), h.r1.chg hc (no _ (by omega)), h.r2.chg hc (no _ (by omega)), h.be.trans (hc.below h.be.size (fun i hi hs => by have := hn i hs; omega))⟩
theorem GetI.back {a : Act} {w W : World} {pre xs : List (Int × UInt8)} {R0 : Nat → Prop} {D : Nat} {I : List (Int × UInt8) → World → Prop} {p : Prop} (h : GetI w pre W) (hD : w.heap.size + 5 ≤ D) (hR : ∀ k, R0 k → k < w.heap.size ∨ k = w.heap.size + 4) (hR2 : ∀ k, R0 k → k ≠ w.heap.size ∧ k ≠ w.heap.size + 1 ∧ k ≠ w.heap.size + 2) (hp : p) :
    roundEndT (fun k => ¬ R0 k ∧ k ≠ D ∧ k ≠ D + 1) I (fun c _ W => c = .ret ∧ GetX w W ∧ p) xs W .ret a (((W.setCell ⟨w.heap.size, 0, none⟩ (.int .u64 0)).setCell ⟨w.heap.size + 1, 0, none⟩ (.int .i64 0)).setCell ⟨w.heap.size + 1 + 1, 0, none⟩ (.bool false)) := by
  refine ⟨(((Chg.refl _ _).setCell (fun _ => ?_) _).setCell (fun _ => ?_) _).setCell (fun _ => ?_) _, rfl, ⟨((h.r0.set_ 0 _).far (by simp; try omega) _).far (by simp; try omega) _, ((h.r1.far (by simp; try omega) _).set_ 0 _).far (by simp; try omega) _, ((h.r2.far (by simp; try omega) _).far (by simp; try omega) _).set_ 0 _, ((h.be.setCell (by simp; try omega) _).setCell (by simp; try omega) _).setCell (by simp; try omega) _⟩, hp⟩
  · exact ⟨fun hh => (hR2 _ hh).1 rfl, by simp; omega, by simp; omega⟩
  · exact ⟨fun hh => (hR2 _ hh).2.1 rfl, by simp; omega, by simp; omega⟩
  · exact ⟨fun hh => (hR2 _ hh).2.2 rfl, by simp; omega, by simp; omega⟩
theorem GetI.next {a : Act} {w W : World} {pre : List (Int × UInt8)} {j : Int} {d : UInt8} {R0 : Nat → Prop} {D : Nat} {Ix : Code → List (Int × UInt8) → World → Prop} (h : GetI w pre W) (hD : w.heap.size + 5 ≤ D) (hR3 : ∀ k, R0 k → k ≠ w.heap.size + 3)
    {v r : Nat} (hv : v = valL (pre.map Prod.snd).reverse) (hlt : v < 144115188075855872) (hr : r = d.toNat % 128 + 128 * v) :
    roundEndT (fun k => ¬ R0 k ∧ k ≠ D ∧ k ≠ D + 1) (GetI w) Ix (pre ++ [(j, d)]) W .normal a (W.setCell ⟨w.heap.size + 1 + 1 + 1, 0, none⟩ (.int .u64 (r : Int))) := by
  subst hr
  have e : ((pre ++ [(j, d)]).map Prod.snd).reverse = d :: (pre.map Prod.snd).reverse := by simp
  have e2 : valL ((pre ++ [(j, d)]).map Prod.snd).reverse = d.toNat % 128 + 128 * v := by rw [e, valL, hv]
  refine ⟨(Chg.refl _ _).setCell (fun _ => ⟨fun hh => hR3 _ hh rfl, by simp; omega, by simp; omega⟩) _, h.r0.far (by simp; try omega) _, h.r1.far (by simp; try omega) _, h.r2.far (by simp; try omega) _, ?_, ?_, h.be.setCell (by simp; try omega) _⟩
  · rw [e2]; exact h.nb.set_ 0 _
  · rw [e2]
    have := val_under d (pre.map Prod.snd).reverse (by omega)
    rw [valL, ← hv] at this
    exact this
theorem and127 : ∀ d : UInt8, bits .and .u8 (d.toNat : Int) 127 = ((d.toNat % 128 : Nat) : Int) := by
  intro d
  have h : ∀ m : Fin 256, bits .and .u8 (m.val : Int) 127 = ((m.val % 128 : Nat) : Int) := by decide +kernel
  exact h ⟨d.toNat, d.toNat_lt⟩
/-- what Get's result boxes hold in the end -/
structure GetR (w : World) (a : Int) (b : Int) (c : Bool) (W : World) : Prop where
  r0 : Blk W w.heap.size 34 #[.int .u64 a]
  r1 : Blk W (w.heap.size + 1) 3 #[.int .i64 b]
  r2 : Blk W (w.heap.size + 2) 4 #[.bool c]
  be : Below w.heap.size w W
theorem GetR.chg {w W W' : World} {a b : Int} {c : Bool} {S : Nat → Prop} (h : GetR w a b c W) (hc : Chg S W W') (hn : ∀ k, S k → w.heap.size + 3 ≤ k) : GetR w a b c W' :=
  have no : ∀ k, k < w.heap.size + 3 → ¬ S k := fun k hk hs => by have := hn k hs; omega
  ⟨h.r0.chg hc (no _ (by omega)), h.r1.chg hc (no _ (by omega)), h.r2.chg hc (no _ (by omega)), h.be.trans (hc.below h.be.size (fun i hi hs => by have := hn i hs; omega))⟩
theorem GetI.stored {w W : World} {pre : List (Int × UInt8)} (h : GetI w pre W) (a b : Int) (c : Bool) :
    GetR w a b c (((W.setCell ⟨w.heap.size, 0, none⟩ (.int .u64 a)).setCell ⟨w.heap.size + 1, 0, none⟩ (.int .i64 b)).setCell ⟨w.heap.size + 1 + 1, 0, none⟩ (.bool c)) :=
  ⟨((h.r0.set_ 0 _).far (by simp; try omega) _).far (by simp; try omega) _, ((h.r1.far (by simp; try omega) _).set_ 0 _).far (by simp; try omega) _, ((h.r2.far (by simp; try omega) _).far (by simp; try omega) _).set_ 0 _, ((h.be.setCell (by simp; try omega) _).setCell (by simp; try omega) _).setCell (by simp; try omega) _⟩
theorem GetI.stored_heap {w W : World} {D : Nat} {o : Obj} (a b : Int) (c : Bool) (hK : W.heap[D]? = some o) (hD : w.heap.size + 5 ≤ D) :
    (((W.setCell ⟨w.heap.size, 0, none⟩ (.int .u64 a)).setCell ⟨w.heap.size + 1, 0, none⟩ (.int .i64 b)).setCell ⟨w.heap.size + 1 + 1, 0, none⟩ (.bool c)).heap[D]? = some o := by
  have far : ∀ (V : World) (p : Addr) (u : Value), D ≠ p.block → V.heap[D]? = some o → (V.setCell p u).heap[D]? = some o := fun V p u hp hv => (Below.heap_setCell V p u D hp).trans hv
  exact far _ _ _ (by simp; omega) (far _ _ _ (by simp; omega) (far _ _ _ (by simp; omega) hK))
theorem GetX.stored {w W : World} (h : GetX w W) : GetR w 0 0 false W := ⟨h.r0, h.r1, h.r2, h.be⟩
end Go.Proofs.Ytoneechcclndaaa.Word

namespace Go.Proofs.Ytoneechcclndaaa.Word
open Go.RowKit Go.ChangeShapes Go.WideShapes Go.ChangeAt
set_option linter.unusedVariables false
set_option linter.unusedSimpArgs false
attribute [local go_sem ↓] Go.wp_at_zero Go.wp_at_succ
attribute [local go_sem] Oper.semAt_some
open Go.Shelf

theorem get_in (l : List UInt8) (A : Option Addr) (n cap k : Nat) (w : World) (hl : BySl w w.heap.size A l) (hn : Hid (n = l.length)) (hc : n ≤ cap) (hm : n ≤ 1000000000000) (hk : k < n) :
    Calls Try.prog 113 #[.slice A n cap, .int .i64 (k : Int)] w fun e w' => e = .returned (getV (getW (l.drop k))) ∧ Below w.heap.size w w' := by
  have hlo : ∀ W, (Instr.slice 25 (.slice A n cap) (some (.int .i64 (k : Int))) none none).run Try.prog W = .ok (.slice (cutA A cap k 1) (n - k) (cap - k)) W := fun W => by
    have := run_slice_lo (c := 1) Try.underlying25 (Option.isSome_iff_exists.1 (by kernel_rfl)) (by kernel_rfl) A n cap (k : Int) (by omega) (by omega) W
    simpa using this
  have k0 : ¬ (k : Int) < 0 := by omega
  have k1 : ¬ (n : Int) ≤ (k : Int) := by omega
  have HL := Lib.hid (Sl.cut hl cap k (by rw [← hn.out]; exact hc))
  have hnk : Hid (n - k = (l.drop k).length) := by unfold Hid; rw [List.length_drop, ← hn.out]
  refine (callsIn_wide (n := 3)).1 ?_
  refine callsIn_of_wp_marks Try.func113 rfl trivial ?_ rfl
  simp only [Try.ntmps113, List.size_toArray, List.length_cons, List.length_nil, Nat.reduceAdd, Nat.reduceSub, Array.replicate_succ, Array.replicate_zero, List.push_toArray, List.append_toArray, List.nil_append, List.cons_append]
  gi_wp2_with fail
  refine ⟨trivial, ?_⟩
  have hb3 : Below w.heap.size w (((w.alloc (.cells #[.int .u64 0] 34)).alloc (.cells #[.int .i64 0] 3)).alloc (.cells #[.bool false] 4)) := (by repeat (first | exact Below.refl _ _ | assumption | refine Below.drew ?_ | refine bdrewN ?_ _ | refine Below.alloc ?_ (by simp; try omega) _ | refine Below.setCell ?_ (by simp; try omega) _))
  refine (callsIn_wide.2 (indexLow_any (l.drop k) (cutA A cap k 1) (n - k) (cap - k) _ (Sl.ext HL.out hb3) hnk (by omega))).mono ?_; rintro e w1 ⟨rfl, rfl⟩
  cases hi : lowIdx (l.drop k) with
  | none =>
    have e1 : lowI (l.drop k) = -1 := by unfold lowI; rw [hi]
    have e2 : Hid (getW (l.drop k) = none) := get_none hi
    rw [e1]
    clear hi e1
    gi_wp2
    refine ⟨getV none, by simp [results, Try.results113, go_sem, getV], by rw [e2.out], (by repeat (first | exact Below.refl _ _ | assumption | refine Below.drew ?_ | refine bdrewN ?_ _ | refine Below.alloc ?_ (by simp; try omega) _ | refine Below.setCell ?_ (by simp; try omega) _))⟩
  | some i =>
    have e1 : lowI (l.drop k) = (i : Int) := by unfold lowI; rw [hi]
    rw [e1]
    by_cases hf : 9 < i
    · have e2 : Hid (getW (l.drop k) = none) := get_far hi hf
      have h9 : (9 : Int) < (i : Int) := by omega
      have h0 : ¬ (i : Int) < 0 := by omega
      clear hi e1
      gi_wp2
      refine ⟨getV none, by simp [results, Try.results113, go_sem, getV], by rw [e2.out], (by repeat (first | exact Below.refl _ _ | assumption | refine Below.drew ?_ | refine bdrewN ?_ _ | refine Below.alloc ?_ (by simp; try omega) _ | refine Below.setCell ?_ (by simp; try omega) _))⟩
    · have h9 : decide ((9 : Int) < (i : Int)) = false := decide_eq_false (by omega)
      have h0 : decide ((i : Int) < 0) = false := decide_eq_false (by omega)
      have hlt := lowIdx_lt _ _ hi
      have hin : k + (i + 1) ≤ n := by rw [List.length_drop] at hlt; rw [hn.out] at *; omega
      have HI := Lib.hid hi
      have e3 : IntKind.i64.wrap ((k : Int) + (i : Int)) = (k : Int) + (i : Int) := IntWalk.i64_in _ (by omega)
      have e4 : IntKind.i64.wrap ((k : Int) + (i : Int) + 1) = (k : Int) + (i : Int) + 1 := IntWalk.i64_in _ (by omega)
      have hlh : ∀ W, (Instr.slice 25 (.slice A n cap) (some (.int .i64 (k : Int))) (some (.int .i64 ((k : Int) + (i : Int) + 1))) none).run Try.prog W = .ok (.slice (cutA A cap k 1) (i + 1) (cap - k)) W := fun W => by
        have := run_slice_lohi (c := 1) Try.underlying25 (Option.isSome_iff_exists.1 (by kernel_rfl)) (by kernel_rfl) A n cap (k : Int) ((k : Int) + (i : Int) + 1) (by omega) (by omega) (by omega) W
        have e5 : ((k : Int) + (i : Int) + 1).toNat - (k : Int).toNat = i + 1 := by omega
        rw [e5, Int.toNat_natCast] at this
        exact this
      clear hi e1 hlt
      gi_wp2_with fail
      refine ⟨trivial, ?_⟩
      refine (callsIn_wide.2 (backward_any _ _ _ _)).mono ?_; rintro e w' ⟨rfl, rfl⟩
      gi_wp2_with fail
      have hB0 : Below w.heap.size w (((((w.alloc (.cells #[.int .u64 0] 34)).alloc (.cells #[.int .i64 0] 3)).alloc (.cells #[.bool false] 4)).alloc (.cells #[.int .u64 0] 34)).alloc (.cells #[.slice (cutA A cap k 1) (i + 1) (cap - k)] 25)) := (by repeat (first | exact Below.refl _ _ | assumption | refine Below.drew ?_ | refine bdrewN ?_ _ | refine Below.alloc ?_ (by simp; try omega) _ | refine Below.setCell ?_ (by simp; try omega) _))
      have hsz : (((((w.alloc (.cells #[.int .u64 0] 34)).alloc (.cells #[.int .i64 0] 3)).alloc (.cells #[.bool false] 4)).alloc (.cells #[.int .u64 0] 34)).alloc (.cells #[.slice (cutA A cap k 1) (i + 1) (cap - k)] 25)).heap.size = w.heap.size + 5 := by simp
      have z0 : Blk (((((w.alloc (.cells #[.int .u64 0] 34)).alloc (.cells #[.int .i64 0] 3)).alloc (.cells #[.bool false] 4)).alloc (.cells #[.int .u64 0] 34)).alloc (.cells #[.slice (cutA A cap k 1) (i + 1) (cap - k)] 25)) w.heap.size 34 #[.int .u64 0] := ((((Blk.new _ _ _).alloc _).alloc _).alloc _).alloc _
      have z1 : Blk (((((w.alloc (.cells #[.int .u64 0] 34)).alloc (.cells #[.int .i64 0] 3)).alloc (.cells #[.bool false] 4)).alloc (.cells #[.int .u64 0] 34)).alloc (.cells #[.slice (cutA A cap k 1) (i + 1) (cap - k)] 25)) (w.heap.size + 1) 3 #[.int .i64 0] := by
        have := Blk.new (w.alloc (.cells #[.int .u64 0] 34)) 3 #[.int .i64 0]
        rw [World.size_alloc] at this
        exact ((this.alloc _).alloc _).alloc _
      have z2 : Blk (((((w.alloc (.cells #[.int .u64 0] 34)).alloc (.cells #[.int .i64 0] 3)).alloc (.cells #[.bool false] 4)).alloc (.cells #[.int .u64 0] 34)).alloc (.cells #[.slice (cutA A cap k 1) (i + 1) (cap - k)] 25)) (w.heap.size + 2) 4 #[.bool false] := by
        have := Blk.new ((w.alloc (.cells #[.int .u64 0] 34)).alloc (.cells #[.int .i64 0] 3)) 4 #[.bool false]
        rw [World.size_alloc, World.size_alloc] at this
        exact (this.alloc _).alloc _
      have z3 : Blk (((((w.alloc (.cells #[.int .u64 0] 34)).alloc (.cells #[.int .i64 0] 3)).alloc (.cells #[.bool false] 4)).alloc (.cells #[.int .u64 0] 34)).alloc (.cells #[.slice (cutA A cap k 1) (i + 1) (cap - k)] 25)) (w.heap.size + 3) 34 #[.int .u64 0] := by
        have := Blk.new (((w.alloc (.cells #[.int .u64 0] 34)).alloc (.cells #[.int .i64 0] 3)).alloc (.cells #[.bool false] 4)) 34 #[.int .u64 0]
        rw [World.size_alloc, World.size_alloc, World.size_alloc] at this
        exact this.alloc _
      have z4 : Blk (((((w.alloc (.cells #[.int .u64 0] 34)).alloc (.cells #[.int .i64 0] 3)).alloc (.cells #[.bool false] 4)).alloc (.cells #[.int .u64 0] 34)).alloc (.cells #[.slice (cutA A cap k 1) (i + 1) (cap - k)] 25)) (w.heap.size + 4) 25 #[.slice (cutA A cap k 1) (i + 1) (cap - k)] := by
        have := Blk.new ((((w.alloc (.cells #[.int .u64 0] 34)).alloc (.cells #[.int .i64 0] 3)).alloc (.cells #[.bool false] 4)).alloc (.cells #[.int .u64 0] 34)) 25 #[.slice (cutA A cap k 1) (i + 1) (cap - k)]
        rw [World.size_alloc, World.size_alloc, World.size_alloc, World.size_alloc] at this
        exact this
      generalize (((((w.alloc (.cells #[.int .u64 0] 34)).alloc (.cells #[.int .i64 0] 3)).alloc (.cells #[.bool false] 4)).alloc (.cells #[.int .u64 0] 34)).alloc (.cells #[.slice (cutA A cap k 1) (i + 1) (cap - k)] 25)) = w0 at *
      have htd : Hid ((l.drop k).take (i + 1) ≠ [] ∧ ((l.drop k).take (i + 1)).length = i + 1) := by
        have h1 : ((l.drop k).take (i + 1)).length = i + 1 := by rw [List.length_take, List.length_drop, ← hn.out]; omega
        exact ⟨fun h => by rw [h] at h1; simp at h1, h1⟩
      have hG : Hid (∀ v : Nat, v = valL ((l.drop k).take (i + 1)) → (p64 ≤ v → getW (l.drop k) = none) ∧ (v < p64 → getW (l.drop k) = if (putW v).length = i + 1 then some (v, i + 1) else none)) := by
        rintro v rfl
        exact ⟨fun h => get_over HI.out h, fun h => get_length HI.out (by omega) h⟩
      have HS : Hid (BySl w0 w0.heap.size (cutA A cap k 1) ((l.drop k).take (i + 1))) := (Sl.ext HL.out hB0).take (i + 1)
      obtain ⟨t, ht⟩ : ∃ t, (l.drop k).take (i + 1) = t := ⟨_, rfl⟩
      rw [ht] at htd hG HS
      have hAb : Hid (∀ g, blockOf (cutA A cap k 1) = some g → g < w.heap.size) := (HL.out.take (i + 1)).blk_lt (by rw [ht]; exact htd.out.1)
      generalize hgA : cutA A cap k 1 = Ac at *
      have hit := backward_iter (3 - 1) t Ac (i + 1) (cap - k) (w.heap.size + 1 + 1 + 1 + 1) w0 HS.out htd.out.2.symm (by omega) (z4.cell 0)
      clear HI HL hlh hlo ht hk hin k0 k1 hl
      apply wpIn_rangeT (n := 3) (gf := 126) (lb := #[.pointer (some ⟨w.heap.size + 1 + 1 + 1 + 1, 0, none⟩)]) rfl (enters_of Try.func126 (by kernel_rfl) rfl) (encs := encK) (fun _ => rfl) (bk t) (fun _ => False) (fun k => k = w.heap.size + 1 + 1 + 1 + 1 ∨ blockOf Ac = some k) (fun _ h => h.elim)
        (by rintro k (rfl | h); (· omega); exact HS.out.blk_lt htd.out.1 _ h) hit
        (GetI w) (fun c pre W => c = .ret ∧ GetX w W ∧ p64 ≤ valL t) (fun s X Y h hc => h.chg hc (fun q hk => by rcases hk with hk | hk | hk; (· exact hk.elim); (· omega); omega)) (fun c s X Y h hc => ⟨h.1, h.2.1.chg hc (fun q hk => by rcases hk with hk | hk | hk; (· exact hk.elim); (· omega); omega), h.2.2⟩) ⟨z0, z1, z2, z3, by decide, hB0⟩
      case hassign =>
        intro l x W K hK
        have e : ∀ (T : Array Value), ((#[37, 38] : Array Tmp).zip (encK x)).foldl (fun t (y : Tmp × Value) => t.setIfInBounds y.1 y.2) T = (T.setIfInBounds 37 (.int .i64 x.1)).setIfInBounds 38 (.int .u8 (x.2.toNat : Int)) := fun T => by simp [encK]
        rw [e]
        gi_wp2
        exact hK
      case hbody =>
        rintro l' pre ⟨j, d⟩ W hI hpre hsz'
        have hfit : Hid (∃ p, t = p ++ d :: (pre.map Prod.snd).reverse) := by
          obtain ⟨s, hs⟩ := hpre
          have h1 := congrArg (List.map Prod.snd) hs
          rw [bk_snd] at h1
          have h2 := congrArg List.reverse h1
          rw [List.reverse_reverse] at h2
          exact ⟨(s.map Prod.snd).reverse, by rw [← h2]; simp⟩
        obtain ⟨v, hv⟩ : ∃ v, v = valL (pre.map Prod.snd).reverse := ⟨_, rfl⟩
        have c0 : W.cell? ⟨w.heap.size, 0, none⟩ = some (.int .u64 0) := hI.r0.cell 0
        have c1 : W.cell? ⟨w.heap.size + 1, 0, none⟩ = some (.int .i64 0) := hI.r1.cell 0
        have c2 : W.cell? ⟨w.heap.size + 1 + 1, 0, none⟩ = some (.bool false) := hI.r2.cell 0
        have c3 : W.cell? ⟨w.heap.size + 1 + 1 + 1, 0, none⟩ = some (.int .u64 (v : Int)) := by rw [hv]; exact hI.nb.cell 0
        have f0 := hI.r0.free 0
        have f1 := hI.r1.free 0
        have f2 : W.frozen? ⟨w.heap.size + 1 + 1, 0, none⟩ = false := hI.r2.free 0
        have f3 : W.frozen? ⟨w.heap.size + 1 + 1 + 1, 0, none⟩ = false := hI.nb.free 0
        have HI := Lib.hid hI
        have HV : Hid (v = valL (pre.map Prod.snd).reverse ∧ v < p64) := ⟨hv, by rw [hv]; exact hI.lt⟩
        have hD : w.heap.size + 5 ≤ w0.heap.size := by omega
        clear hI hpre hv
        obtain ⟨q, hq⟩ : ∃ q, q = v / 2 ^ 57 := ⟨_, rfl⟩
        have hsh : Op.shift .shr .u64 (v : Int) .u64 57 = pure (.int .u64 (q : Int)) := (shift_shr .u64 .u64 _ _ (by decide) (by decide)).trans (by rw [hq]; rfl)
        by_cases hov : v < 144115188075855872
        · have hq0 : q = 0 := by rw [hq]; exact Nat.div_eq_of_lt (by omega)
          subst hq0
          have hsl : Op.shift .shl .u64 (v : Int) .u64 7 = pure (.int .u64 ((v * 128 : Nat) : Int)) := (shift_shl .u64 .u64 _ _ (by decide) (by decide)).trans (by
            have e : IntKind.u64.wrap ((v : Int) * 2 ^ (7 : Int).toNat) = ((v * 128 : Nat) : Int) := by
              rw [show ((v : Int) * 2 ^ (7 : Int).toNat) = ((v * 128 : Nat) : Int) from by simp]
              exact IntWalk.u64_in _ (by omega)
            rw [e])
          have ha := and127 d
          obtain ⟨r, hr⟩ : ∃ r, r = d.toNat % 128 + 128 * v := ⟨_, rfl⟩
          have hj : bits .or .u64 ((v : Int) * 128) ((d.toNat : Int) % 128) = (r : Int) := by
            have := join7 v d hov
            rw [← hr] at this
            rw [← this]
            simp
          have HR := Lib.hid hr
          clear hr
          have hw : IntKind.u64.wrap ((d.toNat % 128 : Nat) : Int) = ((d.toNat % 128 : Nat) : Int) := IntWalk.u64_in _ (by omega)
          clear hq
          gi_wp2
          exact HI.out.next (R0 := fun q => q = w.heap.size + 1 + 1 + 1 + 1 ∨ blockOf Ac = some q) hD (by rintro g (rfl | hg); (· omega); have := hAb.out g hg; omega) HV.out.1 hov HR.out
        · have hq0 : ((q : Int) == 0) = false := by
            have : 1 ≤ q := by rw [hq]; omega
            simp; omega
          clear hq
          gi_wp2
          exact HI.out.back (R0 := fun q => q = w.heap.size + 1 + 1 + 1 + 1 ∨ blockOf Ac = some q) hD (by rintro g (rfl | hg); (· exact .inr rfl); exact .inl (hAb.out g hg)) (by rintro g (rfl | hg); (· omega); have := hAb.out g hg; omega) (by obtain ⟨p, hp⟩ := hfit.out; rw [hp]; exact val_over p d _ (by rw [← HV.out.1]; omega))
      case hdone =>
        rintro W hI hK
        have e1 : ((bk t).map Prod.snd).reverse = t := by rw [bk_snd, List.reverse_reverse]
        obtain ⟨v, hv⟩ : ∃ v, v = valL t := ⟨_, rfl⟩
        have c0 : W.cell? ⟨w.heap.size, 0, none⟩ = some (.int .u64 0) := hI.r0.cell 0
        have c1 : W.cell? ⟨w.heap.size + 1, 0, none⟩ = some (.int .i64 0) := hI.r1.cell 0
        have c2 : W.cell? ⟨w.heap.size + 1 + 1, 0, none⟩ = some (.bool false) := hI.r2.cell 0
        have c3 : W.cell? ⟨w.heap.size + 1 + 1 + 1, 0, none⟩ = some (.int .u64 (v : Int)) := by rw [hv, ← e1]; exact hI.nb.cell 0
        have f0 := hI.r0.free 0
        have f1 := hI.r1.free 0
        have f2 : W.frozen? ⟨w.heap.size + 1 + 1, 0, none⟩ = false := hI.r2.free 0
        have hlt : v < p64 := by rw [hv, ← e1]; exact hI.lt
        have hg := (hG.out v hv).2 hlt
        have HI := Lib.hid (And.intro hI hg)
        clear hI hg e1 hv
        have e5 : IntKind.i64.wrap ((i : Int) + 1) = (i : Int) + 1 := IntWalk.i64_in _ (by omega)
        gi_wp2_with fail
        refine ⟨trivial, ?_⟩
        refine (callsIn_wide.2 (size_any v hlt _)).mono ?_; rintro e w' ⟨rfl, rfl⟩
        rw [hsz] at hK
        have fin : ∀ (a b : Int) (c : Bool), Hid (GetR w a b c ((((W.setCell ⟨w.heap.size, 0, none⟩ (.int .u64 a)).setCell ⟨w.heap.size + 1, 0, none⟩ (.int .i64 b)).setCell ⟨w.heap.size + 1 + 1, 0, none⟩ (.bool c)).putObj (w.heap.size + 5) (.deferred none))) := fun a b c =>
          (HI.out.1.stored a b c).chg ((Chg.refl (fun q => q = w.heap.size + 5) _).putObj (r := w.heap.size + 5) (fun _ => rfl) _) (fun q hq => by omega)
        have hKs := fun a b c => Lib.hid (GetI.stored_heap (w := w) a b c hK (by omega))
        clear hK
        by_cases hsz2 : (putW v).length = i + 1
        · have h5 : (((putW v).length : Int) == (i : Int) + 1) = true := by rw [hsz2]; simp
          have hR := Lib.hid ((HI.out.2).trans (if_pos hsz2))
          clear hsz2
          generalize (putW v).length = pl at *
          gi_wp2
          refine ⟨by simp, .inl ⟨_, _, rfl, run_takeDeferred (hKs _ _ _).out, ?_⟩⟩
          have HF := (fin (v : Int) ((i : Int) + 1) true).out
          have q0 := HF.r0.cell 0
          have q1 := HF.r1.cell 0
          have q2 := HF.r2.cell 0
          refine ⟨getV (some (v, i + 1)), ?_, by rw [hR.out], HF.be⟩
          trace_state
          simp [results, Try.results113, go_sem, getV, q0, q1, q2]
        · have h5 : (((putW v).length : Int) == (i : Int) + 1) = false := by simp; omega
          have hR := Lib.hid ((HI.out.2).trans (if_neg hsz2))
          clear hsz2
          generalize (putW v).length = pl at *
          gi_wp2
          refine ⟨by simp, .inl ⟨_, _, rfl, run_takeDeferred (hKs _ _ _).out, ?_⟩⟩
          have HF := (fin 0 0 false).out
          have q0 := HF.r0.cell 0
          have q1 := HF.r1.cell 0
          have q2 := HF.r2.cell 0
          refine ⟨getV none, ?_, by rw [hR.out], HF.be⟩
          simp [results, Try.results113, go_sem, getV, q0, q1, q2]
      case hstop =>
        rintro c pre W ⟨rfl, hX, hv⟩ hK
        have e2 : Hid (getW (l.drop k) = none) := (hG.out _ rfl).1 hv
        have HF := hX.stored.chg ((Chg.refl (fun q => q = w0.heap.size) W).putObj (r := w0.heap.size) (fun _ => rfl) (.deferred none)) (fun q hq => by omega)
        clear hX hv
        gi_wp2
        refine ⟨by simp, .inl ⟨_, _, rfl, run_takeDeferred hK, ?_⟩⟩
        have q0 := HF.r0.cell 0
        have q1 := HF.r1.cell 0
        have q2 := HF.r2.cell 0
        refine ⟨getV none, ?_, by rw [e2.out], HF.be⟩
        simp [results, Try.results113, go_sem, getV, q0, q1, q2]
end Go.Proofs.Ytoneechcclndaaa.Word

namespace Go.Proofs.Ytoneechcclndaaa.Word
set_option linter.unusedVariables false
set_option linter.unusedSimpArgs false

theorem val_snoc : ∀ (s : List UInt8) (d : UInt8), valL (s ++ [d]) = valL s + d.toNat % 128 * 128 ^ s.length
  | [], d => by simp [valL]
  | a :: s, d => by
    rw [List.cons_append, valL, valL, val_snoc s d, List.length_cons, Nat.pow_succ]
    rw [Nat.mul_add, Nat.add_assoc, show 128 * (d.toNat % 128 * 128 ^ s.length) = d.toNat % 128 * (128 ^ s.length * 128) from by rw [← Nat.mul_assoc, Nat.mul_comm 128, Nat.mul_assoc, Nat.mul_comm 128]]
theorem take_snoc {l : List UInt8} {i : Nat} {d : UInt8} (h : l[i]? = some d) : l.take (i + 1) = l.take i ++ [d] := by rw [List.take_add_one, h]; rfl
theorem rget_end {l : List UInt8} {i : Nat} (h : lowIdx l = (lowIdx (l.drop i)).map (· + i)) (hi : 10 ≤ i ∨ l.length ≤ i) : getW l = none := by
  cases hd : lowIdx (l.drop i) with
  | none => rw [hd] at h; exact by unfold getW; rw [h]; rfl
  | some k =>
    rw [hd] at h
    have h2 := lowIdx_lt _ _ hd
    rw [List.length_drop] at h2
    unfold getW
    rw [h]
    simp only [Option.map_some]
    rw [if_neg]
    rintro ⟨h3, _⟩
    omega
theorem rget_next {l : List UInt8} {i : Nat} {d : UInt8} (h : lowIdx l = (lowIdx (l.drop i)).map (· + i)) (hx : l[i]? = some d) (hd : ¬ d.toNat < 128) : lowIdx l = (lowIdx (l.drop (i + 1))).map (· + (i + 1)) := by
  rw [h, lowIdx_drop hx, if_neg hd, Option.map_map]
  congr 1
  funext k
  simp only [Function.comp]
  omega
theorem rget_low {l : List UInt8} {i : Nat} {d : UInt8} (h : lowIdx l = (lowIdx (l.drop i)).map (· + i)) (hx : l[i]? = some d) (hd : d.toNat < 128) (hi : i ≤ 9) {v : Nat} (hv : v = valL (l.take (i + 1)) % p64) :
    getW l = if putW v = l.take (i + 1) then some (v, i + 1) else none := by
  rw [lowIdx_drop hx, if_pos hd] at h
  simp only [Option.map_some, Nat.zero_add] at h
  unfold getW
  rw [h]
  simp only
  by_cases hp : valL (l.take (i + 1)) < p64
  · rw [Nat.mod_eq_of_lt hp] at hv
    subst hv
    by_cases he : putW (valL (l.take (i + 1))) = l.take (i + 1)
    · rw [if_pos ⟨hi, hp, he⟩, if_pos he]
    · rw [if_neg (fun hh => he hh.2.2), if_neg he]
  · rw [if_neg (fun hh => hp hh.2.1), if_neg]
    intro he
    have hlt : v < p64 := by rw [hv]; exact Nat.mod_lt _ (by decide)
    have h2 := putW_val (p64_lt hlt)
    rw [he] at h2
    omega
/-- one round's sums, round p64 -/
theorem rget_sum {l : List UInt8} {i : Nat} {d : UInt8} (hx : l[i]? = some d) : (valL (l.take i) % p64 + d.toNat % 128 * (128 ^ i % p64)) % p64 = valL (l.take (i + 1)) % p64 := by
  have hl : (l.take i).length = i := by rw [List.length_take]; have := (List.getElem?_eq_some_iff.1 hx).1; omega
  rw [take_snoc hx, val_snoc, hl]
  rw [Nat.add_mod, Nat.mod_mod, Nat.mul_mod, Nat.mod_mod, ← Nat.mul_mod, ← Nat.add_mod]
theorem rget_unit (i : Nat) : 128 ^ i % p64 * 128 % p64 = 128 ^ (i + 1) % p64 := by
  rw [Nat.pow_succ, Nat.mul_mod, Nat.mod_mod, ← Nat.mul_mod]
end Go.Proofs.Ytoneechcclndaaa.Word
