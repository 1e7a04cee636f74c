/- words: Put of the program, Fold, Unfold. -/
import Derived.Test.YtiommdidkhohgaaWordA
import Derived.Outline
import Derived.BigQuiet
import Derived.Deep.QuietTactic
import Derived.Deep.RegionWith
import Derived.Deep.RegionHeld3
import Derived.Deep.DrawnRows
import Derived.Deep.LoopGhost
import Derived.Deep.DeepCutAuto
import Derived.Laws.EntriesVeiled
namespace Go.Proofs.Ytiommdidkhohgaa.Word
open Go.RowKit Go.ChangeShapes Go.WideShapes Go.ChangeAt
set_option linter.unusedVariables false
set_option linter.unusedSimpArgs false
attribute [local go_sem ↓] Go.wp_at_zero Go.wp_at_succ
attribute [local go_sem] Oper.semAt_some
open Go.Shelf

theorem byInfo : (Try.prog.info? 5).map (fun i => (i.zero, i.size, i.bytes)) = some (some (.int .u8 0), 1, 1) := by kernel_rfl

theorem ret_k {k : IntKind} {a b : Int} (h : a = b) : Ending.returned (.int k a) = .returned (.int k b) := by rw [h]

theorem fold_any (i : Int) (h1 : -9223372036854775808 ≤ i) (h2 : i ≤ 9223372036854775807) (w : World) : Calls Try.prog 71 #[.int .i64 i] w fun e w' => e = .returned (.int .u64 (foldZ i : Int)) ∧ w = w' := by
  by_cases h : i < 0
  · obtain ⟨k, hk⟩ : ∃ k : Nat, (k : Int) = -(i + 1) := ⟨(-(i + 1)).toNat, by omega⟩
    obtain ⟨f, hf⟩ : ∃ f : Nat, f = 2 * k + 1 := ⟨_, rfl⟩
    have e1 : IntKind.i64.wrap (i + 1) = i + 1 := IntWalk.i64_in _ (by omega)
    have e2 : IntKind.i64.wrap (-(i + 1)) = (k : Int) := by rw [hk]; exact IntWalk.i64_in _ (by omega)
    have e3 : IntKind.u64.wrap (k : Int) = (k : Int) := IntWalk.u64_in _ (by omega)
    have e4 : IntKind.u64.wrap (2 * (k : Int)) = 2 * (k : Int) := IntWalk.u64_in _ (by omega)
    have e5 : IntKind.u64.wrap (2 * (k : Int) + 1) = (f : Int) := by rw [show 2 * (k : Int) + 1 = (f : Int) from by omega]; exact IntWalk.u64_in _ (by omega)
    have hF : Hid (foldZ i = f) := by unfold Hid foldZ; rw [if_pos h]; omega
    have HK := Lib.hid hk
    have HFF := Lib.hid hf
    clear hk hf
    go_enter Try.func71, Try.ntmps71
    go_wp2
    go_ret
    exact ⟨ret_k (by rw [hF.out]), rfl⟩
  · obtain ⟨k, rfl⟩ : ∃ k : Nat, i = (k : Int) := ⟨i.toNat, by omega⟩
    obtain ⟨f, hf⟩ : ∃ f : Nat, f = 2 * k := ⟨_, rfl⟩
    have e3 : IntKind.u64.wrap (k : Int) = (k : Int) := IntWalk.u64_in _ (by omega)
    have e4 : IntKind.u64.wrap (2 * (k : Int)) = (f : Int) := by rw [show 2 * (k : Int) = (f : Int) from by omega]; exact IntWalk.u64_in _ (by omega)
    have hF : Hid (foldZ k = f) := by unfold Hid foldZ; rw [if_neg h]; omega
    have HFF := Lib.hid hf
    clear hf
    go_enter Try.func71, Try.ntmps71
    go_wp2
    go_ret
    exact ⟨ret_k (by rw [hF.out]), rfl⟩

theorem unfold_any (n : Nat) (hn : n < p64) (w : World) : Calls Try.prog 83 #[.int .u64 (n : Int)] w fun e w' => e = .returned (.int .i64 (unfoldZ n)) ∧ w = w' := by
  unfold p64 at hn
  obtain ⟨k, hk⟩ : ∃ k : Nat, n / 2 = k := ⟨_, rfl⟩
  have hkb : (k : Int) ≤ 9223372036854775807 := by omega
  have e0 : IntKind.u64.wrap ((n : Int).tdiv 2) = (k : Int) := by rw [IntWalk.u64_quo _ _ (by omega)]; omega
  have e1 : (n : Int) / 2 = (k : Int) := by omega
  have e2 : IntKind.i64.wrap (k : Int) = (k : Int) := IntWalk.i64_in _ (by omega)
  by_cases h : n % 2 = 0
  · have hF : Hid (unfoldZ n = (k : Int)) := by unfold Hid unfoldZ; rw [if_pos h, hk]
    have h1 : (n : Int) % 2 = 0 := by omega
    have HK := Lib.hid hk
    have HN := Lib.hid hn
    clear hk hn h
    go_enter Try.func83, Try.ntmps83
    go_wp2
    go_ret
    exact ⟨ret_k (by rw [hF.out]), rfl⟩
  · have hF : Hid (unfoldZ n = -1 - (k : Int)) := by unfold Hid unfoldZ; rw [if_neg h, hk]
    have h1 : (n : Int) % 2 = 1 := by omega
    have HK := Lib.hid hk
    have HN := Lib.hid hn
    have e4 : IntKind.i64.wrap (-(k : Int)) = -(k : Int) := IntWalk.i64_in _ (by omega)
    have e5 : IntKind.i64.wrap (-(k : Int) - 1) = -(k : Int) - 1 := IntWalk.i64_in _ (by omega)
    clear hk hn h
    go_enter Try.func83, Try.ntmps83
    go_wp2
    go_ret
    exact ⟨ret_k (by rw [hF.out]; omega), rfl⟩

theorem or128 : ∀ d : UInt8, d.toNat < 128 → bits .or .u8 (d.toNat : Int) 128 = ((UInt8.ofNat (d.toNat + 128)).toNat : Int) := by
  intro d hd
  have h1 : (UInt8.ofNat (d.toNat + 128)).toNat = d.toNat + 128 := by rw [UInt8.toNat_ofNat']; omega
  rw [h1, show ((d.toNat : Nat) : Int) = ((d.toNat : Nat) : Int) from rfl]
  generalize d.toNat = n at hd
  have key : ∀ n : Fin 128, bits .or .u8 ((n.val : Nat) : Int) 128 = ((n.val + 128 : Nat) : Int) := by decide +kernel
  exact key ⟨n, hd⟩
/-- all digits of a number but the last one are below 128 -/
theorem dig_lt : ∀ f n x, x ∈ digF f n → x.1.toNat < 128
  | 0, n, x, h => by cases h
  | f + 1, n, x, h => by
    rw [digF] at h
    split at h
    · rw [List.mem_singleton] at h; subst h; rw [ofNat_lo ‹_›]; assumption
    · rcases List.mem_cons.1 h with rfl | h
      · show (UInt8.ofNat (n % 128)).toNat < 128
        rw [ofNat_lo (Nat.mod_lt _ (by omega))]; exact Nat.mod_lt _ (by omega)
      · exact dig_lt f _ x h
end Go.Proofs.Ytiommdidkhohgaa.Word
