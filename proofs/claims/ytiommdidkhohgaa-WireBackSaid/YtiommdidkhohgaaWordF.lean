/- math/bits.Len64, words.Size. -/
import Derived.Test.YtiommdidkhohgaaWordE
import Derived.Outline
import Derived.BigQuiet
import Derived.Deep.QuietTactic
import Derived.Deep.RegionWith
import Derived.Deep.RegionHeld3
import Derived.Deep.DrawnRows
import Derived.Deep.LoopGhost
import Derived.Deep.DeepCutAuto
import Derived.Laws.EntriesVeiled
namespace Go.Proofs.Ytiommdidkhohgaa.Word
open Go.RowKit Go.ChangeShapes Go.WideShapes Go.ChangeAt
set_option linter.unusedVariables false
set_option linter.unusedSimpArgs false
attribute [local go_sem ↓] Go.wp_at_zero Go.wp_at_succ

def blen (n : Nat) : Nat := if n = 0 then 0 else Nat.log2 n + 1
theorem blen_half (n : Nat) (h : 0 < n) : blen n = blen (n / 2) + 1 := by
  unfold blen
  rw [if_neg (by omega), Nat.log2_def]
  by_cases h1 : 2 ≤ n
  · rw [if_pos h1, if_neg (by omega)]
  · have : n = 1 := by omega
    subst this; rfl
theorem blen_shift : ∀ (k n : Nat), 2 ^ k ≤ n → blen n = blen (n / 2 ^ k) + k
  | 0, n, h => by simp
  | k + 1, n, h => by
    have h2 : 2 ^ k ≤ n / 2 := by rw [Nat.pow_succ] at h; omega
    have hp : 0 < 2 ^ k := Nat.two_pow_pos k
    rw [blen_half n (by omega), blen_shift k (n / 2) h2, Nat.div_div_eq_div_mul, Nat.pow_succ, Nat.mul_comm 2]
    omega
theorem blen_small : ∀ n : Fin 128, 1 ≤ max 1 ((blen n.val + 6) / 7) ∧ max 1 ((blen n.val + 6) / 7) ≤ 1 := by decide +kernel
theorem size_put : ∀ f n : Nat, n < 128 ^ (f + 1) → max 1 ((blen n + 6) / 7) = (putF (f + 1) n).length
  | 0, n, h => by
    have h' : n < 128 := by simpa using h
    have := blen_small ⟨n, h'⟩
    simp only [putF, if_pos h', List.length_singleton]
    simp only at this
    omega
  | f + 1, n, h => by
    rw [putF]
    by_cases h' : n < 128
    · have := blen_small ⟨n, h'⟩
      simp only at this
      rw [if_pos h', List.length_singleton]
      omega
    · rw [if_neg h', List.length_cons, ← size_put f (n / 128) ((Nat.div_lt_iff_lt_mul (by omega)).2 (by rw [← Nat.pow_succ]; exact h)), blen_shift 7 n (by omega)]
      have : 1 ≤ blen (n / 2 ^ 7) := by
        have : 0 < n / 2 ^ 7 := Nat.div_pos (by omega) (by decide)
        rw [blen_half _ this]; omega
      show max 1 ((blen (n / 2 ^ 7) + 7 + 6) / 7) = max 1 ((blen (n / 2 ^ 7) + 6) / 7) + 1
      omega

set_option maxRecDepth 100000 in
set_option maxHeartbeats 2000000 in
theorem len64_any (n : Nat) (hn : n < p64) (w : World) : Calls Try.prog 93 #[.int .u64 (n : Int)] w fun e w' => e = .returned (.int .i64 (blen n : Int)) ∧ w = w' := by
  have hsh : ∀ (m k : Nat), k ≤ 64 → Op.shift .shr .u64 (m : Int) .u64 (k : Int) = pure (.int .u64 ((m / 2 ^ k : Nat) : Int)) := fun m k hk =>
    (shift_shr .u64 .u64 _ _ (by omega) (by show (k : Int) ≤ 64; omega)).trans (by simp)
  unfold p64 at hn
  by_cases c1 : (4294967296 : Int) ≤ (n : Int)
  · obtain ⟨x1, hx1⟩ : ∃ x1 : Nat, x1 = n / 2 ^ 32 := ⟨_, rfl⟩
    have s1 : Op.shift .shr .u64 (n : Int) .u64 32 = pure (.int .u64 (x1 : Int)) := by rw [hx1]; exact hsh n 32 (by decide)
    have b1 : blen n = blen x1 + 32 := by rw [hx1]; exact blen_shift 32 n (by omega)
    by_cases c2 : (65536 : Int) ≤ (x1 : Int)
    · obtain ⟨x2, hx2⟩ : ∃ x2 : Nat, x2 = x1 / 2 ^ 16 := ⟨_, rfl⟩
      have s2 : Op.shift .shr .u64 (x1 : Int) .u64 16 = pure (.int .u64 (x2 : Int)) := by rw [hx2]; exact hsh x1 16 (by decide)
      have b2 : blen x1 = blen x2 + 16 := by rw [hx2]; exact blen_shift 16 x1 (by omega)
      by_cases c3 : (256 : Int) ≤ (x2 : Int)
      · obtain ⟨x3, hx3⟩ : ∃ x3 : Nat, x3 = x2 / 2 ^ 8 := ⟨_, rfl⟩
        have s3 : Op.shift .shr .u64 (x2 : Int) .u64 8 = pure (.int .u64 (x3 : Int)) := by rw [hx3]; exact hsh x2 8 (by decide)
        have b3 : blen x2 = blen x3 + 8 := by rw [hx3]; exact blen_shift 8 x2 (by omega)
        have hz : (x3 : Int) < 256 := by omega
        have hz0 : (0 : Int) ≤ (x3 : Int) := Int.natCast_nonneg _
        have hzn : x3 < 256 := by omega
        have HB : Hid (blen n = blen x3 + 56) := by unfold Hid; omega
        have HZ := Lib.hid hzn
        clear hzn hn hsh hx1 b1 hx2 b2 hx3 b3
        go_enter Try.func93, Try.ntmps93
        go_wp2
        go_ret
        refine ⟨ret_k ?_, rfl⟩
        rw [HB.out]
        have hzn := HZ.out
        obtain ⟨m, hm⟩ : ∃ m : Fin 256, x3 = m.val := ⟨⟨x3, hzn⟩, rfl⟩
        subst hm
        clear hzn HB HZ s1 s2 s3
        revert m
        decide +kernel
      · have b3 : (x2 : Int) < 256 := by omega
        have hz : (x2 : Int) < 256 := by omega
        have hz0 : (0 : Int) ≤ (x2 : Int) := Int.natCast_nonneg _
        have hzn : x2 < 256 := by omega
        have HB : Hid (blen n = blen x2 + 48) := by unfold Hid; omega
        have HZ := Lib.hid hzn
        clear hzn hn hsh hx1 b1 hx2 b2
        go_enter Try.func93, Try.ntmps93
        go_wp2
        go_ret
        refine ⟨ret_k ?_, rfl⟩
        rw [HB.out]
        have hzn := HZ.out
        obtain ⟨m, hm⟩ : ∃ m : Fin 256, x2 = m.val := ⟨⟨x2, hzn⟩, rfl⟩
        subst hm
        clear hzn HB HZ s1 s2
        revert m
        decide +kernel
    · have b2 : (x1 : Int) < 65536 := by omega
      by_cases c3 : (256 : Int) ≤ (x1 : Int)
      · obtain ⟨x3, hx3⟩ : ∃ x3 : Nat, x3 = x1 / 2 ^ 8 := ⟨_, rfl⟩
        have s3 : Op.shift .shr .u64 (x1 : Int) .u64 8 = pure (.int .u64 (x3 : Int)) := by rw [hx3]; exact hsh x1 8 (by decide)
        have b3 : blen x1 = blen x3 + 8 := by rw [hx3]; exact blen_shift 8 x1 (by omega)
        have hz : (x3 : Int) < 256 := by omega
        have hz0 : (0 : Int) ≤ (x3 : Int) := Int.natCast_nonneg _
        have hzn : x3 < 256 := by omega
        have HB : Hid (blen n = blen x3 + 40) := by unfold Hid; omega
        have HZ := Lib.hid hzn
        clear hzn hn hsh hx1 b1 hx3 b3
        go_enter Try.func93, Try.ntmps93
        go_wp2
        go_ret
        refine ⟨ret_k ?_, rfl⟩
        rw [HB.out]
        have hzn := HZ.out
        obtain ⟨m, hm⟩ : ∃ m : Fin 256, x3 = m.val := ⟨⟨x3, hzn⟩, rfl⟩
        subst hm
        clear hzn HB HZ s1 s3
        revert m
        decide +kernel
      · have b3 : (x1 : Int) < 256 := by omega
        have hz : (x1 : Int) < 256 := by omega
        have hz0 : (0 : Int) ≤ (x1 : Int) := Int.natCast_nonneg _
        have hzn : x1 < 256 := by omega
        have HB : Hid (blen n = blen x1 + 32) := by unfold Hid; omega
        have HZ := Lib.hid hzn
        clear hzn hn hsh hx1 b1
        go_enter Try.func93, Try.ntmps93
        go_wp2
        go_ret
        refine ⟨ret_k ?_, rfl⟩
        rw [HB.out]
        have hzn := HZ.out
        obtain ⟨m, hm⟩ : ∃ m : Fin 256, x1 = m.val := ⟨⟨x1, hzn⟩, rfl⟩
        subst hm
        clear hzn HB HZ s1
        revert m
        decide +kernel
  · have b1 : (n : Int) < 4294967296 := by omega
    by_cases c2 : (65536 : Int) ≤ (n : Int)
    · obtain ⟨x2, hx2⟩ : ∃ x2 : Nat, x2 = n / 2 ^ 16 := ⟨_, rfl⟩
      have s2 : Op.shift .shr .u64 (n : Int) .u64 16 = pure (.int .u64 (x2 : Int)) := by rw [hx2]; exact hsh n 16 (by decide)
      have b2 : blen n = blen x2 + 16 := by rw [hx2]; exact blen_shift 16 n (by omega)
      by_cases c3 : (256 : Int) ≤ (x2 : Int)
      · obtain ⟨x3, hx3⟩ : ∃ x3 : Nat, x3 = x2 / 2 ^ 8 := ⟨_, rfl⟩
        have s3 : Op.shift .shr .u64 (x2 : Int) .u64 8 = pure (.int .u64 (x3 : Int)) := by rw [hx3]; exact hsh x2 8 (by decide)
        have b3 : blen x2 = blen x3 + 8 := by rw [hx3]; exact blen_shift 8 x2 (by omega)
        have hz : (x3 : Int) < 256 := by omega
        have hz0 : (0 : Int) ≤ (x3 : Int) := Int.natCast_nonneg _
        have hzn : x3 < 256 := by omega
        have HB : Hid (blen n = blen x3 + 24) := by unfold Hid; omega
        have HZ := Lib.hid hzn
        clear hzn hn hsh hx2 b2 hx3 b3
        go_enter Try.func93, Try.ntmps93
        go_wp2
        go_ret
        refine ⟨ret_k ?_, rfl⟩
        rw [HB.out]
        have hzn := HZ.out
        obtain ⟨m, hm⟩ : ∃ m : Fin 256, x3 = m.val := ⟨⟨x3, hzn⟩, rfl⟩
        subst hm
        clear hzn HB HZ s2 s3
        revert m
        decide +kernel
      · have b3 : (x2 : Int) < 256 := by omega
        have hz : (x2 : Int) < 256 := by omega
        have hz0 : (0 : Int) ≤ (x2 : Int) := Int.natCast_nonneg _
        have hzn : x2 < 256 := by omega
        have HB : Hid (blen n = blen x2 + 16) := by unfold Hid; omega
        have HZ := Lib.hid hzn
        clear hzn hn hsh hx2 b2
        go_enter Try.func93, Try.ntmps93
        go_wp2
        go_ret
        refine ⟨ret_k ?_, rfl⟩
        rw [HB.out]
        have hzn := HZ.out
        obtain ⟨m, hm⟩ : ∃ m : Fin 256, x2 = m.val := ⟨⟨x2, hzn⟩, rfl⟩
        subst hm
        clear hzn HB HZ s2
        revert m
        decide +kernel
    · have b2 : (n : Int) < 65536 := by omega
      by_cases c3 : (256 : Int) ≤ (n : Int)
      · obtain ⟨x3, hx3⟩ : ∃ x3 : Nat, x3 = n / 2 ^ 8 := ⟨_, rfl⟩
        have s3 : Op.shift .shr .u64 (n : Int) .u64 8 = pure (.int .u64 (x3 : Int)) := by rw [hx3]; exact hsh n 8 (by decide)
        have b3 : blen n = blen x3 + 8 := by rw [hx3]; exact blen_shift 8 n (by omega)
        have hz : (x3 : Int) < 256 := by omega
        have hz0 : (0 : Int) ≤ (x3 : Int) := Int.natCast_nonneg _
        have hzn : x3 < 256 := by omega
        have HB : Hid (blen n = blen x3 + 8) := by unfold Hid; omega
        have HZ := Lib.hid hzn
        clear hzn hn hsh hx3 b3
        go_enter Try.func93, Try.ntmps93
        go_wp2
        go_ret
        refine ⟨ret_k ?_, rfl⟩
        rw [HB.out]
        have hzn := HZ.out
        obtain ⟨m, hm⟩ : ∃ m : Fin 256, x3 = m.val := ⟨⟨x3, hzn⟩, rfl⟩
        subst hm
        clear hzn HB HZ s3
        revert m
        decide +kernel
      · have b3 : (n : Int) < 256 := by omega
        have hz : (n : Int) < 256 := by omega
        have hz0 : (0 : Int) ≤ (n : Int) := Int.natCast_nonneg _
        have hzn : n < 256 := by omega
        have HB : Hid (blen n = blen n + 0) := by unfold Hid; omega
        have HZ := Lib.hid hzn
        clear hzn hn hsh
        go_enter Try.func93, Try.ntmps93
        go_wp2
        go_ret
        refine ⟨ret_k ?_, rfl⟩
        rw [HB.out]
        have hzn := HZ.out
        obtain ⟨m, hm⟩ : ∃ m : Fin 256, n = m.val := ⟨⟨n, hzn⟩, rfl⟩
        subst hm
        clear hzn HB HZ 
        revert m
        decide +kernel

theorem size_any (n : Nat) (hn : n < p64) (w : World) : Calls Try.prog 91 #[.int .u64 (n : Int)] w fun e w' => e = .returned (.int .i64 ((putW n).length : Int)) ∧ w = w' := by
  have hs : Hid (max 1 ((blen n + 6) / 7) = (putW n).length) := size_put 9 n (p64_lt hn)
  have hl := Lib.hid (len64_any n hn)
  have hb : blen n ≤ 1000 := by
    have h1 := size_put 9 n (p64_lt hn)
    have h2 : (putF (9 + 1) n).length ≤ 10 := putW_len (p64_lt hn)
    omega
  obtain ⟨k, hk⟩ : ∃ k, blen n = k := ⟨_, rfl⟩
  rw [hk] at hl hs hb
  obtain ⟨q, hq⟩ : ∃ q : Nat, q = (k + 6) / 7 := ⟨_, rfl⟩
  have e1 : IntKind.i64.wrap ((k : Int) + 7) = (k : Int) + 7 := IntWalk.i64_in _ (by omega)
  have e2 : IntKind.i64.wrap ((k : Int) + 7 - 1) = (k : Int) + 7 - 1 := IntWalk.i64_in _ (by omega)
  have e3 : IntKind.i64.wrap (((k : Int) + 7 - 1).tdiv 7) = (q : Int) := by rw [IntWalk.i64_quo _ _ (by omega)]; omega
  have e4 : ((k : Int) + 7 - 1) / 7 = (q : Int) := by omega
  have Hq := Lib.hid hq
  have Hk := Lib.hid hk
  clear hq hk hn
  go_enter Try.func91, Try.ntmps91
  go_wp2_with (go_at_call 93; refine (hl.out _).mono ?_; rintro e w' ⟨rfl, rfl⟩)
  all_goals
    go_ret
    refine ⟨ret_k ?_, rfl⟩
    have := hs.out
    have h2 := Hq.out
    omega
end Go.Proofs.Ytiommdidkhohgaa.Word
