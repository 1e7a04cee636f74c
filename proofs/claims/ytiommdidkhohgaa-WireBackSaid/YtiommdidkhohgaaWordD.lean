/- the document's Put, Fold, Unfold, Row. -/
import Derived.Test.YtiommdidkhohgaaWordC
import Derived.Outline
import Derived.BigQuiet
import Derived.Deep.QuietTactic
import Derived.Deep.RegionWith
import Derived.Deep.RegionHeld3
import Derived.Deep.DrawnRows
import Derived.Deep.LoopGhost
import Derived.Deep.DeepCutAuto
import Derived.Laws.EntriesVeiled
namespace Go.Proofs.Ytiommdidkhohgaa.Word
open Go.RowKit Go.ChangeShapes Go.WideShapes Go.ChangeAt
set_option linter.unusedVariables false
set_option linter.unusedSimpArgs false
attribute [local go_sem ↓] Go.wp_at_zero Go.wp_at_succ

theorem lit_own (w : World) (d : UInt8) : Own (w.alloc (.cells #[.int .u8 (d.toNat : Int)] 5)) w.heap.size 5 1 encB (.slice (some ⟨w.heap.size, 0, none⟩) 1 1) [d] := by
  refine ⟨flat_length encB_len _, .inr ⟨w.heap.size, 1, #[.int .u8 (d.toNat : Int)], rfl, Nat.le_refl _, heap_alloc_new w _, by simp, by simp [maxLen], by simp, by simp [encB]⟩⟩

theorem Own.retOwn {w w1 : World} {v : Value} {l : List UInt8} (h : Own w1 w.heap.size 5 1 encB v l) (hb : Below w.heap.size w w1) : RetOwn w 5 1 encB l (.returned v) w1 := ⟨v, rfl, h, hb⟩

theorem rput_last {w w1 w2 : World} {v v2 : Value} {l : List UInt8} {d : UInt8} (hd : Own w1 w.heap.size 5 1 encB v [d]) (hb : Below w.heap.size w w1) (hg : w1.grownBy w2 v.ownBlock) (ho : Own w2 w.heap.size 5 1 encB v2 ([d] ++ l)) :
    RetOwn w 5 1 encB (d :: l) (.returned v2) w2 :=
  ⟨v2, rfl, ho, hb.trans ((Chg.of_grown (S := fun k => w.heap.size ≤ k) hg (fun g hg _ => (hd.lt hg).1)).below hb.size (fun i hi h => by omega))⟩

set_option maxRecDepth 100000 in
theorem rput_step (n : Nat) (hn : n < p64) (Hrec : Hid (¬ n < 128 → ∀ w : World, Calls Try.prog 28 #[.int .u64 ((n / 128 : Nat) : Int)] w (RetOwn w 5 1 encB (putW (n / 128))))) (w : World) :
    Calls Try.prog 28 #[.int .u64 (n : Int)] w (RetOwn w 5 1 encB (putW n)) := by
    by_cases h : n < 128
    · have e1 : (n : Int) % 256 = (n : Int) := by omega
      have h1 : (n : Int) < 128 := by omega
      have e2 : Hid (putW n = [UInt8.ofNat n]) := putW_small h
      have e3 : Hid (((UInt8.ofNat n).toNat : Int) = (n : Int)) := by unfold Hid; rw [ofNat_lo h]
      have hk := Lib.hid (lit_own w (UInt8.ofNat n))
      clear hn Hrec
      rw [e3.out] at hk
      go_enter Try.func28, Try.ntmps28
      go_wp2
      go_ret
      rw [e2.out]
      exact Own.retOwn hk.out ((Below.refl _ _).alloc (Nat.le_refl _) _)
    · have h1 : ¬ (n : Int) < 128 := by omega
      obtain ⟨q, hq⟩ : ∃ q : Nat, q = n / 128 := ⟨_, rfl⟩
      obtain ⟨d, hd⟩ : ∃ d : UInt8, d = UInt8.ofNat (n % 128 + 128) := ⟨_, rfl⟩
      have hdn : (d.toNat : Int) = (n : Int) % 128 + 128 := by rw [hd, ofNat_hi]; omega
      have e1 : IntKind.u64.wrap ((n : Int) % 128 + 128) = (d.toNat : Int) := by rw [← hdn]; exact IntWalk.u64_in _ (by have := UInt8.toNat_lt d; omega)
      have e1' : (n : Int) % 128 + 128 = (d.toNat : Int) := hdn.symm
      have e2 : (d.toNat : Int) % 256 = (d.toNat : Int) := by have := UInt8.toNat_lt d; omega
      have e3 : IntKind.u64.wrap ((n : Int).tdiv 128) = (q : Int) := by
        unfold p64 at hn
        rw [IntWalk.u64_quo _ _ (by omega)]; omega
      have e4 : (n : Int) / 128 = (q : Int) := by omega
      have e6 : IntKind.u64.wrap (q : Int) = (q : Int) := by unfold p64 at hn; exact IntWalk.u64_in _ (by omega)
      have hqn : q < p64 := by unfold p64 at *; omega
      have e5 : Hid (putW n = d :: putW q) := by unfold Hid; rw [hq, hd]; exact putW_more h (p64_lt hn)
      have Hrec := Lib.hid (Hrec.out h)
      rw [← hq] at Hrec
      have hk := Lib.hid (lit_own w d)
      have HL := Lib.hid (putW_len (p64_lt hqn))
      obtain ⟨i0, hi, hz0, hz1, hz3⟩ := info_parts byInfo
      have hbb : Below w.heap.size w (w.alloc (.cells #[.int .u8 (d.toNat : Int)] 5)) := (Below.refl _ _).alloc (Nat.le_refl _) _
      have HL1 : Hid ([d].length + (putW q).length ≤ maxLen) := by
        have := HL.out
        unfold Hid maxLen; simp; omega
      have HL2 : Hid (([d].length + (putW q).length) * 1 ≤ 140737488355328) := by
        have := HL.out
        unfold Hid; simp; omega
      clear hn hqn hq hd hdn
      go_enter Try.func28, Try.ntmps28
      go_wp2_with (first | (go_at_call 28; refine (Hrec.out _).mono ?_; rintro e w1 ⟨v1, rfl, ho1, hB1⟩; obtain ⟨A1, n1, cap1, rfl, hn1, hle1, hmx1⟩ := ho1.form; have HO := Lib.hid (And.intro ho1 hB1); clear ho1 hB1) | (at_builtin; refine wpList_append_sl _ rfl _ _ _ rfl w.heap.size 5 i0 _ 1 1 Try.underlying22 hi hz0 hz1 hz3 rfl (by decide) encB_len encB_one (.slice (some ⟨w.heap.size, 0, none⟩) 1 1) [d] (by rfl) (hk.out.below HO.out.2) _ A1 (putW q) n1 cap1 (by rfl) hn1.out (HO.out.1.sls encB_len) HL1.out HL2.out (by have := HO.out.2.size; simp at this; omega) ?_; intro v2 w2 hown hgrow hat))
      go_ret
      rw [e5.out]
      exact rput_last (hk.out.below HO.out.2) (ext_under hbb (by simp) HO.out.2) hgrow hown

theorem rput_any : ∀ (f n : Nat), n < 128 ^ (f + 1) → n < p64 → ∀ w : World, Calls Try.prog 28 #[.int .u64 (n : Int)] w (RetOwn w 5 1 encB (putW n))
  | 0, n, hf, hn => rput_step n hn (Lib.hid (fun h => absurd (by simpa using hf) h))
  | f + 1, n, hf, hn => rput_step n hn (Lib.hid (fun h => rput_any f (n / 128) ((Nat.div_lt_iff_lt_mul (by omega)).2 (by rw [← Nat.pow_succ]; exact hf)) (Nat.lt_of_le_of_lt (Nat.div_le_self _ _) hn)))
theorem rput (n : Nat) (hn : n < p64) (w : World) : Calls Try.prog 28 #[.int .u64 (n : Int)] w (RetOwn w 5 1 encB (putW n)) := rput_any 9 n (p64_lt hn) hn w
end Go.Proofs.Ytiommdidkhohgaa.Word
