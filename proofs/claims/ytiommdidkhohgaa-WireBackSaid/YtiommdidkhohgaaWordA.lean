/- words: digits, the iterator over a number's digits. -/
import Derived.Test.YtiommdidkhohgaaWord
import Derived.Test.YtiommdidkhohgaaRangeT
import Derived.Test.YtiommdidkhohgaaRows
import Derived.Test.YtiommdidkhohgaaFoot
import Derived.OwnWalkIn
import Derived.TacticsInMore
import Derived.LoopNIn
import Derived.LoopIn
import Derived.Sort.LoopGhostIn
import Derived.Shelf.RegionOpen
import Derived.Laws.Bits64b
import Derived.Outline
import Derived.BigQuiet
import Derived.Deep.QuietTactic
import Derived.Deep.RegionWith
import Derived.Deep.RegionHeld3
import Derived.Deep.DrawnRows
import Derived.Deep.LoopGhost
import Derived.Deep.DeepCutAuto
import Derived.Laws.EntriesVeiled
namespace Go.Proofs.Ytiommdidkhohgaa.Word
open Go.RowKit Go.ChangeShapes Go.WideShapes Go.ChangeAt
set_option linter.unusedVariables false
set_option linter.unusedSimpArgs false
attribute [local go_sem ↓] Go.wp_at_zero Go.wp_at_succ
attribute [local go_sem] Oper.semAt_some
open Go.Shelf

/-- a number's digits, of f at most; behind the last one there is none -/
def digF : Nat → Nat → List (UInt8 × Bool)
  | 0, _ => []
  | f + 1, n => if n < 128 then [(UInt8.ofNat n, true)] else (UInt8.ofNat (n % 128), false) :: digF f (n / 128)
def dbyte (x : UInt8 × Bool) : UInt8 := if x.2 then x.1 else UInt8.ofNat (x.1.toNat + 128)
theorem dig_put : ∀ f n, (digF f n).map dbyte = putF f n
  | 0, n => rfl
  | f + 1, n => by
    unfold digF putF
    split
    · simp [dbyte]
    · have h : (UInt8.ofNat (n % 128)).toNat = n % 128 := ofNat_lo (Nat.mod_lt _ (by omega))
      simp [dbyte, h, dig_put f]
theorem dig_small {n : Nat} (f : Nat) (h : n < 128) : digF (f + 1) n = [(UInt8.ofNat n, true)] := by rw [digF, if_pos h]
theorem dig_more {n : Nat} (f : Nat) (h : ¬ n < 128) : digF (f + 1) n = (UInt8.ofNat (n % 128), false) :: digF f (n / 128) := by rw [digF, if_neg h]
def encD (x : UInt8 × Bool) : Array Value := #[.int .u8 (x.1.toNat : Int), .bool x.2]

theorem digits_any (n : Int) (w : World) : Calls Try.prog 81 #[.int .u64 n] w fun e w' => e = .returned (.func (.func 87) #[] #[.pointer (some ⟨w.heap.size, 0, none⟩)]) ∧ w.alloc (.cells #[.int .u64 n] 31) = w' := by
  go_enter Try.func81, Try.ntmps81
  go_wp2
  go_ret
  exact ⟨rfl, rfl⟩

/-- what stands ahead of the digits of m -/
def DSt (n : Nat) (bl : Nat) (W : World) (J : List (UInt8 × Bool) → World → Prop) (f m : Nat) (wr : World) : Prop :=
  ∃ pre, digF 10 n = pre ++ digF f m ∧ J pre wr ∧ Blk wr bl 31 #[.int .u64 (m : Int)] ∧ W.heap.size ≤ wr.heap.size

theorem digits_iter (lv : Nat) (n : Nat) (hn : n < p64) (bl : Nat) (w : World) (hbl : Blk w bl 31 #[.int .u64 (n : Int)]) :
    IterT lv Try.prog 87 #[.pointer (some ⟨bl, 0, none⟩)] encD (digF 10 n) (fun k => k = bl) (fun k => k = bl) w := by
  intro l' J Jx W hW hl1 hl2 hJ hJx hY h0
  have HY := Lib.hid hY
  have HJ := Lib.hid hJ
  have HS : Hid (DSt n bl W J 10 n W) := ⟨[], by simp, h0, hbl.ext hW, Nat.le_refl _⟩
  clear hY hJ hJx h0
  refine callsIn_of_wp Try.func87 rfl trivial ?_ rfl
  simp only [Try.ntmps87, List.size_toArray, List.length_cons, List.length_nil, Nat.reduceAdd, Nat.reduceSub, Array.replicate_succ, Array.replicate_zero, List.push_toArray, List.append_toArray, List.nil_append, List.cons_append]
  gi_wp2
  gi_loopg [] 9 (fun g wr => ∃ m : Nat, m < 128 ^ (g + 1) ∧ m < p64 ∧ DSt n bl W J (g + 1) m wr)
  case atStart => exact ⟨n, p64_lt hn, hn, HS.out⟩
  case round =>
    obtain ⟨m, hm, hm2, pre, hpre, hJp, hb, hsz⟩ := hrel
    have c0 : wr.cell? ⟨bl, 0, none⟩ = some (.int .u64 (m : Int)) := hb.cell 0
    have f0 := hb.free 0
    by_cases h : m < 128
    · have h1 : ¬ (127 : Int) < (m : Int) := by omega
      have e1 : IntKind.u8.wrap (m : Int) = (m : Int) := IntWalk.u8_in _ (by omega)
      obtain ⟨fn5, tm5, as5, bd5, hy5, hR5⟩ := HY.out pre (UInt8.ofNat m, true) wr hJp ⟨[], by rw [hpre, dig_small _ h]; simp⟩ hsz
      simp only [encD, ofNat_lo h] at hy5
      gi_wp2
      refine ⟨(fun h => by cases h), hR5.mono ?_⟩
      rintro e W' (⟨rfl, hJ', hk⟩ | ⟨rfl, hJx'⟩)
      · gi_wp2
        go_end0
        exact ⟨⟨_, rfl⟩, .inl (by rw [hpre, dig_small _ h]; exact hJ')⟩
      · gi_wp2
        go_end0
        exact ⟨⟨_, rfl⟩, .inr ⟨_, hJx'⟩⟩
    · have h1 : (127 : Int) < (m : Int) := by omega
      have hg1 : 1 ≤ gk := by
        cases gk with
        | zero => simp at hm; omega
        | succ g => omega
      obtain ⟨d, hd⟩ : ∃ d : Nat, d = m % 128 := ⟨_, rfl⟩
      obtain ⟨q, hq⟩ : ∃ q : Nat, q = m / 128 := ⟨_, rfl⟩
      have e2 : bits .and .u64 (m : Int) 127 = (m : Int) % 128 := by
        rw [show (127 : Int) = ((127 : Nat) : Int) from rfl, bits_and_u64_nat m 127 hm2 (by decide), show (127 : Nat) = 2 ^ 7 - 1 from rfl, Nat.and_two_pow_sub_one_eq_mod]
        simp
      have hX : digF (gk + 1) m = (UInt8.ofNat d, false) :: digF gk q := by rw [dig_more _ h, hd, hq]
      obtain ⟨fn5, tm5, as5, bd5, hy5, hR5⟩ := HY.out pre (UInt8.ofNat d, false) wr hJp ⟨digF gk q, by rw [hpre, hX]; simp⟩ hsz
      simp only [encD, ofNat_lo (show d < 128 by omega)] at hy5
      rw [show (d : Int) = (m : Int) % 128 from by omega] at hy5
      have HX := Lib.hid hX
      have hqm : (m : Int) / 128 = (q : Int) := by omega
      have hsh : Op.shift .shr .u64 (m : Int) .u64 7 = pure (.int .u64 (q : Int)) := (shift_shr .u64 .u64 _ _ (by decide) (by decide)).trans (by rw [← hqm]; rfl)
      have Hd := Lib.hid hd
      have Hq := Lib.hid hq
      clear hX hd hq hqm
      gi_wp2
      refine ⟨(fun h => by cases h), hR5.mono ?_⟩
      rintro e W' (⟨rfl, hJ', hk⟩ | ⟨rfl, hJx'⟩)
      · have hb' := hb.chg hk (fun h => h rfl)
        have c0 : W'.cell? ⟨bl, 0, none⟩ = some (.int .u64 (m : Int)) := hb'.cell 0
        have f0 := hb'.free 0
        gi_wp2
        gi_roundg (gk - 1)
        case measure => omega
        case rel =>
          rw [show gk - 1 + 1 = gk from by omega]
          refine ⟨q, ?_, ?_, pre ++ [(UInt8.ofNat d, false)], ?_, HJ.out _ _ _ hJ' ((Chg.refl (fun k => k = bl) W').setCell (p := ⟨bl, 0, none⟩) (fun _ => rfl) _), hb'.set_ 0 _, ?_⟩
          · rw [Nat.pow_succ] at hm
            have := Hq.out
            omega
          · have := Hq.out
            omega
          · rw [hpre, HX.out]; simp
          · have := hk.size
            simp; omega
      · gi_wp2
        refine bodyPost_ret (results_none rfl _ _ _) rfl ?_
        exact ⟨⟨_, rfl⟩, .inr ⟨_, hJx'⟩⟩
end Go.Proofs.Ytiommdidkhohgaa.Word
