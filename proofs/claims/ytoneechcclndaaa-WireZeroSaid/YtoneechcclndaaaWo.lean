/- Words of numbers, plainly: put, and what bytes begin with.
words: digits, the iterator over a number's digits.
words: Put of the program, Fold, Unfold.
words: Put of the program.
the document's Put, Fold, Unfold, Row.
slices.Backward over bytes; words.Get$1, Size. -/
import Derived.Test.YtoneechcclndaaaBase
import Derived.Test.YtoneechcclndaaaRg
import Derived.Test.YtoneechcclndaaaRows
import Derived.OwnWalkIn
import Derived.TacticsInMore
import Derived.LoopNIn
import Derived.LoopIn
import Derived.Sort.LoopGhostIn
import Derived.Shelf.RegionOpen
import Derived.Laws.Bits64b
import Derived.Outline
import Derived.BigQuiet
import Derived.Deep.QuietTactic
import Derived.Deep.RegionWith
import Derived.Deep.RegionHeld3
import Derived.Deep.DrawnRows
import Derived.Deep.LoopGhost
import Derived.Deep.DeepCutAuto
import Derived.Laws.EntriesVeiled
namespace Go.Proofs.Ytoneechcclndaaa.Word
set_option linter.unusedVariables false
set_option linter.unusedSimpArgs false

def p64 : Nat := 18446744073709551616
/-- a number's word, of f digits at most -/
def putF : Nat → Nat → List UInt8
  | 0, _ => []
  | f + 1, n => if n < 128 then [UInt8.ofNat n] else UInt8.ofNat (n % 128 + 128) :: putF f (n / 128)
def putW (n : Nat) : List UInt8 := putF 10 n
/-- the number that digits are -/
def valL : List UInt8 → Nat
  | [] => 0
  | d :: l => d.toNat % 128 + 128 * valL l

theorem putF_more : ∀ (f n : Nat), n < 128 ^ (f + 1) → putF (f + 2) n = putF (f + 1) n
  | 0, n, h => by
    have h' : n < 128 := by simpa using h
    simp only [putF, if_pos h']
  | f + 1, n, h => by
    have e : ∀ k, putF (k + 1) n = if n < 128 then [UInt8.ofNat n] else UInt8.ofNat (n % 128 + 128) :: putF k (n / 128) := fun _ => rfl
    rw [e (f + 2), e (f + 1)]
    split
    · rfl
    · congr 1
      refine putF_more f (n / 128) ?_
      rw [Nat.pow_succ] at h
      exact (Nat.div_lt_iff_lt_mul (by omega)).2 h
theorem putW_small {n : Nat} (h : n < 128) : putW n = [UInt8.ofNat n] := by simp only [putW, putF, if_pos h]
theorem putW_more {n : Nat} (h : ¬ n < 128) (hn : n < 128 ^ 10) : putW n = UInt8.ofNat (n % 128 + 128) :: putW (n / 128) := by
  unfold putW
  rw [putF, if_neg h]
  congr 1
  refine (putF_more 8 (n / 128) ?_).symm
  exact (Nat.div_lt_iff_lt_mul (by omega)).2 (by rw [← Nat.pow_succ]; exact hn)
theorem div_lt {n : Nat} (hn : n < 128 ^ 10) : n / 128 < 128 ^ 10 := Nat.lt_of_le_of_lt (Nat.div_le_self _ _) hn
theorem p64_lt {n : Nat} (hn : n < p64) : n < 128 ^ 10 := Nat.lt_trans hn (by decide)

/-- digits: all but the last one are 128 or more -/
def Shaped : List UInt8 → Prop
  | [] => False
  | [d] => d.toNat < 128
  | d :: e :: l => 128 ≤ d.toNat ∧ Shaped (e :: l)
theorem Shaped.cons {d : UInt8} {l : List UInt8} (hd : 128 ≤ d.toNat) (hl : Shaped l) : Shaped (d :: l) := by
  cases l with
  | nil => exact hl.elim
  | cons e l => exact ⟨hd, hl⟩
theorem ofNat_lo {n : Nat} (h : n < 128) : (UInt8.ofNat n).toNat = n := by rw [UInt8.toNat_ofNat']; omega
theorem ofNat_hi (n : Nat) : (UInt8.ofNat (n % 128 + 128)).toNat = n % 128 + 128 := by rw [UInt8.toNat_ofNat']; omega

theorem put_shape : ∀ (f n : Nat), n < 128 ^ (f + 1) → Shaped (putF (f + 1) n) ∧ valL (putF (f + 1) n) = n ∧ (putF (f + 1) n).length ≤ f + 1
  | 0, n, h => by
    have h' : n < 128 := by simpa using h
    simp only [putF, if_pos h', Shaped, valL, ofNat_lo h', List.length_singleton]
    exact ⟨h', by omega, by omega⟩
  | f + 1, n, h => by
    rw [putF]
    split
    · rename_i h'
      simp only [Shaped, valL, ofNat_lo h', List.length_singleton]
      exact ⟨h', by omega, by omega⟩
    · have hd : n / 128 < 128 ^ (f + 1) := (Nat.div_lt_iff_lt_mul (by omega)).2 (by rw [← Nat.pow_succ]; exact h)
      obtain ⟨i1, i2, i3⟩ := put_shape f (n / 128) hd
      refine ⟨i1.cons (by rw [ofNat_hi]; omega), ?_, by simp only [List.length_cons]; omega⟩
      rw [valL, i2, ofNat_hi]
      omega
theorem putW_shape {n : Nat} (h : n < 128 ^ 10) : Shaped (putW n) := (put_shape 9 n h).1
theorem putW_val {n : Nat} (h : n < 128 ^ 10) : valL (putW n) = n := (put_shape 9 n h).2.1
theorem putW_len {n : Nat} (h : n < 128 ^ 10) : (putW n).length ≤ 10 := (put_shape 9 n h).2.2
theorem putW_ne {n : Nat} (h : n < 128 ^ 10) : putW n ≠ [] := by
  intro e
  have := putW_shape h
  rw [e] at this
  exact this
theorem putW_pos {n : Nat} (h : n < 128 ^ 10) : 1 ≤ (putW n).length := by
  have := putW_ne h
  cases hp : putW n with
  | nil => exact absurd hp this
  | cons a l => simp

/-- where the first digit below 128 stands -/
def lowIdx : List UInt8 → Option Nat
  | [] => none
  | d :: r => if d.toNat < 128 then some 0 else (lowIdx r).map (· + 1)
theorem lowIdx_lt : ∀ (l : List UInt8) (i : Nat), lowIdx l = some i → i < l.length
  | [], i, h => by cases h
  | d :: r, i, h => by
    unfold lowIdx at h
    split at h
    · injection h with h; subst h; simp
    · cases hr : lowIdx r with
      | none => rw [hr] at h; cases h
      | some k =>
        rw [hr] at h
        injection h with h
        subst h
        have := lowIdx_lt r k hr
        simp; omega
theorem lowIdx_shape : ∀ (l : List UInt8) (i : Nat), lowIdx l = some i → Shaped (l.take (i + 1))
  | [], i, h => by cases h
  | d :: r, i, h => by
    unfold lowIdx at h
    split at h
    · rename_i hd
      injection h with h; subst h
      simpa [Shaped] using hd
    · rename_i hd
      cases hr : lowIdx r with
      | none => rw [hr] at h; cases h
      | some k =>
        rw [hr] at h
        injection h with h
        subst h
        exact (lowIdx_shape r k hr).cons (by omega)
theorem shape_lowIdx : ∀ (t r : List UInt8), Shaped t → lowIdx (t ++ r) = some (t.length - 1)
  | [], r, h => h.elim
  | [d], r, h => by
    have h' : d.toNat < 128 := h
    simp [lowIdx, h']
  | d :: e :: l, r, h => by
    have h1 : ¬ d.toNat < 128 := by have := h.1; omega
    rw [List.cons_append, lowIdx, if_neg h1, shape_lowIdx (e :: l) r h.2]
    simp

/-- digits of their number's own length are its word -/
theorem canon : ∀ (t : List UInt8), Shaped t → t.length ≤ 10 → valL t < 128 ^ 10 ∧ ((putW (valL t)).length = t.length → putW (valL t) = t) := by
  have key : ∀ (t : List UInt8) (f : Nat), Shaped t → t.length ≤ f → valL t < 128 ^ f := by
    intro t
    induction t with
    | nil => intro f h _; exact h.elim
    | cons d l ih =>
      intro f h hf
      cases f with
      | zero => simp at hf
      | succ f =>
        have hd : d.toNat % 128 < 128 := Nat.mod_lt _ (by omega)
        cases l with
        | nil => simp only [valL, Nat.pow_succ]; have : 0 < 128 ^ f := Nat.pow_pos (by omega); omega
        | cons e l =>
          have := ih f h.2 (by simpa using hf)
          rw [valL, Nat.pow_succ]
          omega
  intro t h hl
  refine ⟨key t 10 h hl, ?_⟩
  induction t with
  | nil => exact h.elim
  | cons d l ih =>
    intro hlen
    cases l with
    | nil =>
      have hd : d.toNat < 128 := h
      have e : valL [d] = d.toNat := by simp only [valL]; omega
      rw [e, putW_small hd, UInt8.ofNat_toNat]
    | cons e l =>
      have hv : valL (d :: e :: l) < 128 ^ 10 := key _ 10 h hl
      by_cases hs : valL (d :: e :: l) < 128
      · rw [putW_small hs] at hlen
        simp at hlen
      · have hdt : d.toNat < 256 := UInt8.toNat_lt d
        have hd1 : 128 ≤ d.toNat := h.1
        have e1 : valL (d :: e :: l) / 128 = valL (e :: l) := by rw [valL]; omega
        have e2 : valL (d :: e :: l) % 128 + 128 = d.toNat := by rw [valL]; omega
        rw [putW_more hs hv, e1, e2] at hlen ⊢
        rw [UInt8.ofNat_toNat, ih h.2 (by simp at hl ⊢; omega) (by simpa using hlen)]

/-- the number with whose word bytes begin, and how many bytes that has -/
def getW (l : List UInt8) : Option (Nat × Nat) :=
  match lowIdx l with
  | none => none
  | some i => if i ≤ 9 ∧ valL (l.take (i + 1)) < p64 ∧ putW (valL (l.take (i + 1))) = l.take (i + 1) then some (valL (l.take (i + 1)), i + 1) else none

theorem get_put {n : Nat} (h : n < p64) (r : List UInt8) : getW (putW n ++ r) = some (n, (putW n).length) := by
  have hn := p64_lt h
  have hp := putW_pos hn
  have hl := putW_len hn
  have hi := shape_lowIdx (putW n) r (putW_shape hn)
  have ht : (putW n ++ r).take ((putW n).length - 1 + 1) = putW n := by
    rw [show (putW n).length - 1 + 1 = (putW n).length from by omega]; exact List.take_left
  unfold getW
  rw [hi]
  simp only
  rw [ht, putW_val hn, if_pos ⟨by omega, h, rfl⟩, show (putW n).length - 1 + 1 = (putW n).length from by omega]
theorem get_some {l : List UInt8} {n k : Nat} (h : getW l = some (n, k)) : n < p64 ∧ k = (putW n).length ∧ l.take k = putW n ∧ k ≤ l.length ∧ 1 ≤ k ∧ k ≤ 10 := by
  unfold getW at h
  cases hi : lowIdx l with
  | none => rw [hi] at h; cases h
  | some i =>
    rw [hi] at h
    simp only at h
    split at h
    · rename_i hc
      injection h with h
      injection h with h1 h2
      have hlt := lowIdx_lt l i hi
      subst h2
      rw [← h1]
      refine ⟨hc.2.1, ?_, hc.2.2.symm, by omega, by omega, by omega⟩
      rw [hc.2.2, List.length_take]; omega
    · cases h
/-- a form without its last bytes is none -/
theorem get_torn {n : Nat} (h : n < p64) {m : Nat} (hm : m < (putW n).length) : getW ((putW n).take m) = none := by
  cases hg : getW ((putW n).take m) with
  | none => rfl
  | some x =>
    exfalso
    obtain ⟨a, k⟩ := x
    have hs := get_some hg
    have h2 := get_put h []
    rw [List.append_nil] at h2
    have hk : k ≤ m := by have := hs.2.2.2.1; rw [List.length_take] at this; omega
    have hpre : putW n = putW a ++ (putW n).drop k := by
      have h3 := hs.2.2.1
      rw [List.take_take, Nat.min_eq_left hk] at h3
      rw [← h3, List.take_append_drop]
    have h3 := get_put hs.1 ((putW n).drop k)
    rw [← hpre, h2] at h3
    injection h3 with h3
    injection h3 with h4 h5
    have := hs.2.1
    omega

/-! ### numbers with a sign -/
def foldZ (i : Int) : Nat := if i < 0 then 2 * (-(i + 1)).toNat + 1 else 2 * i.toNat
def unfoldZ (n : Nat) : Int := if n % 2 = 0 then ((n / 2 : Nat) : Int) else -1 - ((n / 2 : Nat) : Int)
theorem unfold_fold (i : Int) : unfoldZ (foldZ i) = i := by
  unfold unfoldZ foldZ
  split <;> split <;> omega
theorem fold_unfold (n : Nat) : foldZ (unfoldZ n) = n := by
  unfold unfoldZ foldZ
  split <;> split <;> omega
theorem fold_lt {i : Int} (h1 : -9223372036854775808 ≤ i) (h2 : i ≤ 9223372036854775807) : foldZ i < p64 := by
  unfold foldZ p64
  split <;> omega
theorem unfold_bd {n : Nat} (h : n < p64) : -9223372036854775808 ≤ unfoldZ n ∧ unfoldZ n ≤ 9223372036854775807 := by
  unfold unfoldZ
  unfold p64 at h
  split <;> omega
end Go.Proofs.Ytoneechcclndaaa.Word

namespace Go.Proofs.Ytoneechcclndaaa.Word
open Go.RowKit Go.ChangeShapes Go.WideShapes Go.ChangeAt
set_option linter.unusedVariables false
set_option linter.unusedSimpArgs false
attribute [local go_sem ↓] Go.wp_at_zero Go.wp_at_succ
attribute [local go_sem] Oper.semAt_some
open Go.Shelf

/-- a number's digits, of f at most; behind the last one there is none -/
def digF : Nat → Nat → List (UInt8 × Bool)
  | 0, _ => []
  | f + 1, n => if n < 128 then [(UInt8.ofNat n, true)] else (UInt8.ofNat (n % 128), false) :: digF f (n / 128)
def dbyte (x : UInt8 × Bool) : UInt8 := if x.2 then x.1 else UInt8.ofNat (x.1.toNat + 128)
theorem dig_put : ∀ f n, (digF f n).map dbyte = putF f n
  | 0, n => rfl
  | f + 1, n => by
    unfold digF putF
    split
    · simp [dbyte]
    · have h : (UInt8.ofNat (n % 128)).toNat = n % 128 := ofNat_lo (Nat.mod_lt _ (by omega))
      simp [dbyte, h, dig_put f]
theorem dig_small {n : Nat} (f : Nat) (h : n < 128) : digF (f + 1) n = [(UInt8.ofNat n, true)] := by rw [digF, if_pos h]
theorem dig_more {n : Nat} (f : Nat) (h : ¬ n < 128) : digF (f + 1) n = (UInt8.ofNat (n % 128), false) :: digF f (n / 128) := by rw [digF, if_neg h]
def encD (x : UInt8 × Bool) : Array Value := #[.int .u8 (x.1.toNat : Int), .bool x.2]

theorem digits_any (n : Int) (w : World) : Calls Try.prog 112 #[.int .u64 n] w fun e w' => e = .returned (.func (.func 120) #[] #[.pointer (some ⟨w.heap.size, 0, none⟩)]) ∧ w.alloc (.cells #[.int .u64 n] 34) = w' := by
  go_enter Try.func112, Try.ntmps112
  go_wp2
  go_ret
  exact ⟨rfl, rfl⟩

/-- what stands ahead of the digits of m -/
def DSt (n : Nat) (bl : Nat) (W : World) (J : List (UInt8 × Bool) → World → Prop) (f m : Nat) (wr : World) : Prop :=
  ∃ pre, digF 10 n = pre ++ digF f m ∧ J pre wr ∧ Blk wr bl 34 #[.int .u64 (m : Int)] ∧ W.heap.size ≤ wr.heap.size

theorem digits_iter (lv : Nat) (n : Nat) (hn : n < p64) (bl : Nat) (w : World) (hbl : Blk w bl 34 #[.int .u64 (n : Int)]) :
    IterT lv Try.prog 120 #[.pointer (some ⟨bl, 0, none⟩)] encD (digF 10 n) (fun k => k = bl) (fun k => k = bl) w := by
  intro l' J Jx W hW hl1 hl2 hJ hJx hY h0
  have HY := Lib.hid hY
  have HJ := Lib.hid hJ
  have HS : Hid (DSt n bl W J 10 n W) := ⟨[], by simp, h0, hbl.ext hW, Nat.le_refl _⟩
  clear hY hJ hJx h0
  refine callsIn_of_wp Try.func120 rfl trivial ?_ rfl
  simp only [Try.ntmps120, List.size_toArray, List.length_cons, List.length_nil, Nat.reduceAdd, Nat.reduceSub, Array.replicate_succ, Array.replicate_zero, List.push_toArray, List.append_toArray, List.nil_append, List.cons_append]
  gi_wp2
  gi_loopg [] 9 (fun g wr => ∃ m : Nat, m < 128 ^ (g + 1) ∧ m < p64 ∧ DSt n bl W J (g + 1) m wr)
  case atStart => exact ⟨n, p64_lt hn, hn, HS.out⟩
  case round =>
    obtain ⟨m, hm, hm2, pre, hpre, hJp, hb, hsz⟩ := hrel
    have c0 : wr.cell? ⟨bl, 0, none⟩ = some (.int .u64 (m : Int)) := hb.cell 0
    have f0 := hb.free 0
    by_cases h : m < 128
    · have h1 : ¬ (127 : Int) < (m : Int) := by omega
      have e1 : IntKind.u8.wrap (m : Int) = (m : Int) := IntWalk.u8_in _ (by omega)
      obtain ⟨fn5, tm5, as5, bd5, hy5, hR5⟩ := HY.out pre (UInt8.ofNat m, true) wr hJp ⟨[], by rw [hpre, dig_small _ h]; simp⟩ hsz
      simp only [encD, ofNat_lo h] at hy5
      gi_wp2
      refine ⟨(fun h => by cases h), hR5.mono ?_⟩
      rintro e W' (⟨rfl, hJ', hk⟩ | ⟨rfl, hJx'⟩)
      · gi_wp2
        go_end0
        exact ⟨⟨_, rfl⟩, .inl (by rw [hpre, dig_small _ h]; exact hJ')⟩
      · gi_wp2
        go_end0
        exact ⟨⟨_, rfl⟩, .inr ⟨_, hJx'⟩⟩
    · have h1 : (127 : Int) < (m : Int) := by omega
      have hg1 : 1 ≤ gk := by
        cases gk with
        | zero => simp at hm; omega
        | succ g => omega
      obtain ⟨d, hd⟩ : ∃ d : Nat, d = m % 128 := ⟨_, rfl⟩
      obtain ⟨q, hq⟩ : ∃ q : Nat, q = m / 128 := ⟨_, rfl⟩
      have e2 : bits .and .u64 (m : Int) 127 = (m : Int) % 128 := by
        rw [show (127 : Int) = ((127 : Nat) : Int) from rfl, bits_and_u64_nat m 127 hm2 (by decide), show (127 : Nat) = 2 ^ 7 - 1 from rfl, Nat.and_two_pow_sub_one_eq_mod]
        simp
      have hX : digF (gk + 1) m = (UInt8.ofNat d, false) :: digF gk q := by rw [dig_more _ h, hd, hq]
      obtain ⟨fn5, tm5, as5, bd5, hy5, hR5⟩ := HY.out pre (UInt8.ofNat d, false) wr hJp ⟨digF gk q, by rw [hpre, hX]; simp⟩ hsz
      simp only [encD, ofNat_lo (show d < 128 by omega)] at hy5
      rw [show (d : Int) = (m : Int) % 128 from by omega] at hy5
      have HX := Lib.hid hX
      have hqm : (m : Int) / 128 = (q : Int) := by omega
      have hsh : Op.shift .shr .u64 (m : Int) .u64 7 = pure (.int .u64 (q : Int)) := (shift_shr .u64 .u64 _ _ (by decide) (by decide)).trans (by rw [← hqm]; rfl)
      have Hd := Lib.hid hd
      have Hq := Lib.hid hq
      clear hX hd hq hqm
      gi_wp2
      refine ⟨(fun h => by cases h), hR5.mono ?_⟩
      rintro e W' (⟨rfl, hJ', hk⟩ | ⟨rfl, hJx'⟩)
      · have hb' := hb.chg hk (fun h => h rfl)
        have c0 : W'.cell? ⟨bl, 0, none⟩ = some (.int .u64 (m : Int)) := hb'.cell 0
        have f0 := hb'.free 0
        gi_wp2
        gi_roundg (gk - 1)
        case measure => omega
        case rel =>
          rw [show gk - 1 + 1 = gk from by omega]
          refine ⟨q, ?_, ?_, pre ++ [(UInt8.ofNat d, false)], ?_, HJ.out _ _ _ hJ' ((Chg.refl (fun k => k = bl) W').setCell (p := ⟨bl, 0, none⟩) (fun _ => rfl) _), hb'.set_ 0 _, ?_⟩
          · rw [Nat.pow_succ] at hm
            have := Hq.out
            omega
          · have := Hq.out
            omega
          · rw [hpre, HX.out]; simp
          · have := hk.size
            simp; omega
      · gi_wp2
        refine bodyPost_ret (results_none rfl _ _ _) rfl ?_
        exact ⟨⟨_, rfl⟩, .inr ⟨_, hJx'⟩⟩
end Go.Proofs.Ytoneechcclndaaa.Word

namespace Go.Proofs.Ytoneechcclndaaa.Word
open Go.RowKit Go.ChangeShapes Go.WideShapes Go.ChangeAt
set_option linter.unusedVariables false
set_option linter.unusedSimpArgs false
attribute [local go_sem ↓] Go.wp_at_zero Go.wp_at_succ
attribute [local go_sem] Oper.semAt_some
open Go.Shelf

theorem byInfo : (Try.prog.info? 5).map (fun i => (i.zero, i.size, i.bytes)) = some (some (.int .u8 0), 1, 1) := by kernel_rfl

theorem ret_k {k : IntKind} {a b : Int} (h : a = b) : Ending.returned (.int k a) = .returned (.int k b) := by rw [h]

theorem fold_any (i : Int) (h1 : -9223372036854775808 ≤ i) (h2 : i ≤ 9223372036854775807) (w : World) : Calls Try.prog 99 #[.int .i64 i] w fun e w' => e = .returned (.int .u64 (foldZ i : Int)) ∧ w = w' := by
  by_cases h : i < 0
  · obtain ⟨k, hk⟩ : ∃ k : Nat, (k : Int) = -(i + 1) := ⟨(-(i + 1)).toNat, by omega⟩
    obtain ⟨f, hf⟩ : ∃ f : Nat, f = 2 * k + 1 := ⟨_, rfl⟩
    have e1 : IntKind.i64.wrap (i + 1) = i + 1 := IntWalk.i64_in _ (by omega)
    have e2 : IntKind.i64.wrap (-(i + 1)) = (k : Int) := by rw [hk]; exact IntWalk.i64_in _ (by omega)
    have e3 : IntKind.u64.wrap (k : Int) = (k : Int) := IntWalk.u64_in _ (by omega)
    have e4 : IntKind.u64.wrap (2 * (k : Int)) = 2 * (k : Int) := IntWalk.u64_in _ (by omega)
    have e5 : IntKind.u64.wrap (2 * (k : Int) + 1) = (f : Int) := by rw [show 2 * (k : Int) + 1 = (f : Int) from by omega]; exact IntWalk.u64_in _ (by omega)
    have hF : Hid (foldZ i = f) := by unfold Hid foldZ; rw [if_pos h]; omega
    have HK := Lib.hid hk
    have HFF := Lib.hid hf
    clear hk hf
    go_enter Try.func99, Try.ntmps99
    go_wp2
    go_ret
    exact ⟨ret_k (by rw [hF.out]), rfl⟩
  · obtain ⟨k, rfl⟩ : ∃ k : Nat, i = (k : Int) := ⟨i.toNat, by omega⟩
    obtain ⟨f, hf⟩ : ∃ f : Nat, f = 2 * k := ⟨_, rfl⟩
    have e3 : IntKind.u64.wrap (k : Int) = (k : Int) := IntWalk.u64_in _ (by omega)
    have e4 : IntKind.u64.wrap (2 * (k : Int)) = (f : Int) := by rw [show 2 * (k : Int) = (f : Int) from by omega]; exact IntWalk.u64_in _ (by omega)
    have hF : Hid (foldZ k = f) := by unfold Hid foldZ; rw [if_neg h]; omega
    have HFF := Lib.hid hf
    clear hf
    go_enter Try.func99, Try.ntmps99
    go_wp2
    go_ret
    exact ⟨ret_k (by rw [hF.out]), rfl⟩

theorem unfold_any (n : Nat) (hn : n < p64) (w : World) : Calls Try.prog 114 #[.int .u64 (n : Int)] w fun e w' => e = .returned (.int .i64 (unfoldZ n)) ∧ w = w' := by
  unfold p64 at hn
  obtain ⟨k, hk⟩ : ∃ k : Nat, n / 2 = k := ⟨_, rfl⟩
  have hkb : (k : Int) ≤ 9223372036854775807 := by omega
  have e0 : IntKind.u64.wrap ((n : Int).tdiv 2) = (k : Int) := by rw [IntWalk.u64_quo _ _ (by omega)]; omega
  have e1 : (n : Int) / 2 = (k : Int) := by omega
  have e2 : IntKind.i64.wrap (k : Int) = (k : Int) := IntWalk.i64_in _ (by omega)
  by_cases h : n % 2 = 0
  · have hF : Hid (unfoldZ n = (k : Int)) := by unfold Hid unfoldZ; rw [if_pos h, hk]
    have h1 : (n : Int) % 2 = 0 := by omega
    have HK := Lib.hid hk
    have HN := Lib.hid hn
    clear hk hn h
    go_enter Try.func114, Try.ntmps114
    go_wp2
    go_ret
    exact ⟨ret_k (by rw [hF.out]), rfl⟩
  · have hF : Hid (unfoldZ n = -1 - (k : Int)) := by unfold Hid unfoldZ; rw [if_neg h, hk]
    have h1 : (n : Int) % 2 = 1 := by omega
    have HK := Lib.hid hk
    have HN := Lib.hid hn
    have e4 : IntKind.i64.wrap (-(k : Int)) = -(k : Int) := IntWalk.i64_in _ (by omega)
    have e5 : IntKind.i64.wrap (-(k : Int) - 1) = -(k : Int) - 1 := IntWalk.i64_in _ (by omega)
    clear hk hn h
    go_enter Try.func114, Try.ntmps114
    go_wp2
    go_ret
    exact ⟨ret_k (by rw [hF.out]; omega), rfl⟩

theorem or128 : ∀ d : UInt8, d.toNat < 128 → bits .or .u8 (d.toNat : Int) 128 = ((UInt8.ofNat (d.toNat + 128)).toNat : Int) := by
  intro d hd
  have h1 : (UInt8.ofNat (d.toNat + 128)).toNat = d.toNat + 128 := by rw [UInt8.toNat_ofNat']; omega
  rw [h1, show ((d.toNat : Nat) : Int) = ((d.toNat : Nat) : Int) from rfl]
  generalize d.toNat = n at hd
  have key : ∀ n : Fin 128, bits .or .u8 ((n.val : Nat) : Int) 128 = ((n.val + 128 : Nat) : Int) := by decide +kernel
  exact key ⟨n, hd⟩
/-- all digits of a number but the last one are below 128 -/
theorem dig_lt : ∀ f n x, x ∈ digF f n → x.1.toNat < 128
  | 0, n, x, h => by cases h
  | f + 1, n, x, h => by
    rw [digF] at h
    split at h
    · rw [List.mem_singleton] at h; subst h; rw [ofNat_lo ‹_›]; assumption
    · rcases List.mem_cons.1 h with rfl | h
      · show (UInt8.ofNat (n % 128)).toNat < 128
        rw [ofNat_lo (Nat.mod_lt _ (by omega))]; exact Nat.mod_lt _ (by omega)
      · exact dig_lt f _ x h
end Go.Proofs.Ytoneechcclndaaa.Word

namespace Go.Proofs.Ytoneechcclndaaa.Word
open Go.RowKit Go.ChangeShapes Go.WideShapes Go.ChangeAt
set_option linter.unusedVariables false
set_option linter.unusedSimpArgs false
attribute [local go_sem ↓] Go.wp_at_zero Go.wp_at_succ
attribute [local go_sem] Oper.semAt_some
open Go.Shelf

theorem lit_by (w : World) (d : UInt8) (t : TypeId) : BySl (w.alloc (.cells #[.int .u8 (d.toNat : Int)] t)) (w.alloc (.cells #[.int .u8 (d.toNat : Int)] t)).heap.size (some ⟨w.heap.size, 0, none⟩) [d] := by
  intro _
  refine ⟨w.heap.size, 0, rfl, by simp, fun k x hx j v hv => ?_⟩
  have hj : j = 0 := by
    rcases j with _ | j
    · rfl
    · simp [encB] at hv
  have hk : k = 0 := by
    rcases k with _ | k
    · rfl
    · simp at hx
  subst hj
  subst hk
  simp only [encB, List.getElem?_cons_zero, Option.some.injEq] at hv hx
  subst hv
  subst hx
  rw [(Blk.new w t _).cell]
  rfl

/-- what the rounds of Put keep -/
def PutI (w : World) (pre : List (UInt8 × Bool)) (W : World) : Prop :=
  ∃ v, Blk W w.heap.size 25 #[v] ∧ Own W (w.heap.size + 4) 5 1 encB v (pre.map dbyte) ∧ Below w.heap.size w W

theorem PutI.chg {w W W' : World} {S : Nat → Prop} {pre : List (UInt8 × Bool)} (h : PutI w pre W) (hc : Chg S W W') (hn : ∀ k, S k → w.heap.size < k ∧ k < w.heap.size + 4) : PutI w pre W' := by
  obtain ⟨v, hb, ho, hB⟩ := h
  exact ⟨v, hb.chg hc (fun h => by have := hn _ h; omega), ho.chg hc (fun g hg h => by have := hn _ h; have := (ho.lt hg).1; omega),
    hB.trans (hc.below hB.size (fun i hi h => by have := hn _ h; omega))⟩

theorem PutI.box {w W w' : World} {xs : List UInt8} {v : Value} {o : Obj}
    (HH : Blk W w.heap.size 25 #[v] ∧ Own W (w.heap.size + 4) 5 1 encB v xs ∧ Below w.heap.size w W) (hg : (W.alloc o).grownBy w' v.ownBlock) : Blk w' w.heap.size 25 #[v] :=
  HH.1.chg (((Chg.refl (fun k => v.ownBlock = some k) W).alloc o).trans (Chg.of_grown hg (fun k hk _ => hk)) (fun _ _ h => h)) (fun h => by have := (HH.2.1.lt h).1; omega)

theorem PutI.round {a : Act} {w W w' : World} {pre : List (UInt8 × Bool)} {x : UInt8 × Bool} {v v' : Value} {o : Obj} (hs : w.heap.size + 4 ≤ W.heap.size)
    (HH : Blk W w.heap.size 25 #[v] ∧ Own W (w.heap.size + 4) 5 1 encB v (pre.map dbyte) ∧ Below w.heap.size w W)
    (ho : Own w' (w.heap.size + 4) 5 1 encB v' (pre.map dbyte ++ [dbyte x])) (hg : (W.alloc o).grownBy w' v.ownBlock) :
    roundEndT (fun k => ¬ k = w.heap.size + 1 ∧ k ≠ w.heap.size + 2 ∧ k ≠ w.heap.size + 2 + 1) (PutI w) (fun _ _ _ => False) (pre ++ [x]) W .normal a (w'.setCell ⟨w.heap.size, 0, none⟩ v') := by
  have hc : Chg (fun k => v.ownBlock = some k) W w' := ((Chg.refl (fun k => v.ownBlock = some k) W).alloc o).trans (Chg.of_grown hg (fun k hk _ => hk)) (fun _ _ h => h)
  have hne : ¬ v.ownBlock = some w.heap.size := fun h => by have := (HH.2.1.lt h).1; omega
  have hb := HH.1.chg hc hne
  refine ⟨(hc.mono (T := fun k => ¬ k = w.heap.size + 1 ∧ k ≠ w.heap.size + 2 ∧ k ≠ w.heap.size + 2 + 1) (fun k _ hk => ?_)).setCell (p := ⟨w.heap.size, 0, none⟩) (fun _ => by refine ⟨?_, ?_, ?_⟩ <;> simp <;> omega) _, v', hb.set_ 0 _, ?_, ?_⟩
  · have := (HH.2.1.lt hk).1
    omega
  · rw [List.map_append]
    exact ho.chg ((Chg.refl (fun k => k = w.heap.size) w').setCell (p := ⟨w.heap.size, 0, none⟩) (fun _ => rfl) _) (fun g hg h => by have := (ho.lt hg).1; omega)
  · exact (HH.2.2.trans (hc.below HH.2.2.size (fun i hi h => by have := (HH.2.1.lt h).1; omega))).setCell (Nat.le_refl _) _

set_option maxRecDepth 100000 in
theorem put_any (n : Nat) (hn : n < p64) (w : World) : Calls Try.prog 96 #[.int .u64 (n : Int)] w (RetOwn w 5 1 encB (putW n)) := by
  refine (callsIn_wide (n := 3)).1 ?_
  refine callsIn_of_wp_marks Try.func96 rfl trivial ?_ rfl
  simp only [Try.ntmps96, List.size_toArray, List.length_cons, List.length_nil, Nat.reduceAdd, Nat.reduceSub, Array.replicate_succ, Array.replicate_zero, List.push_toArray, List.append_toArray, List.nil_append, List.cons_append]
  gi_wp2_with fail
  refine ⟨trivial, ?_⟩
  refine (callsIn_wide.2 (digits_any _ _)).mono ?_; rintro e w' ⟨rfl, rfl⟩
  gi_wp2_with fail
  have hB0 : Below w.heap.size w ((w.alloc (.cells #[.slice none 0 0] 25)).alloc (.cells #[.int .u64 (n : Int)] 34)) := ((Below.refl _ _).alloc (Nat.le_refl _) _).alloc (by simp) _
  have hsz : ((w.alloc (.cells #[.slice none 0 0] 25)).alloc (.cells #[.int .u64 (n : Int)] 34)).heap.size = w.heap.size + 2 := by simp
  have hb0 : Blk ((w.alloc (.cells #[.slice none 0 0] 25)).alloc (.cells #[.int .u64 (n : Int)] 34)) w.heap.size 25 #[.slice none 0 0] := (Blk.new _ _ _).alloc _
  have hb1 : Blk ((w.alloc (.cells #[.slice none 0 0] 25)).alloc (.cells #[.int .u64 (n : Int)] 34)) (w.heap.size + 1) 34 #[.int .u64 (n : Int)] := by
    have := Blk.new (w.alloc (.cells #[.slice none 0 0] 25)) 34 #[.int .u64 (n : Int)]
    rwa [World.size_alloc] at this
  generalize ((w.alloc (.cells #[.slice none 0 0] 25)).alloc (.cells #[.int .u64 (n : Int)] 34)) = w0 at *
  have hit := digits_iter (3 - 1) n hn (w.heap.size + 1) w0 hb1
  obtain ⟨i0, hi, hz0, hz1, hz3⟩ := info_parts byInfo
  have HN := Lib.hid hn
  clear hn
  refine wpIn_rangeT (n := 3) (gf := 120) (lb := #[.pointer (some ⟨w.heap.size + 1, 0, none⟩)]) rfl (enters_of Try.func120 (by kernel_rfl) rfl) (encs := encD) (fun _ => rfl) (digF 10 n) (fun k => k = w.heap.size + 1) (fun k => k = w.heap.size + 1) (fun k h => by omega) (fun k h => by omega) hit
    (PutI w) (fun _ _ _ => False) (fun s X Y h hc => h.chg hc (fun k hk => by omega)) (fun c s X Y h hc => h.elim) ⟨_, hb0, Own.nil_ _ _ _ _ _, hB0⟩
    (fun x => { tmps := #[.int .u64 (n : Int), undef, .slice none 0 0, .pointer (some ⟨w.heap.size, 0, none⟩), .int .u8 (x.1.toNat : Int), .bool x.2, .int .u64 (n : Int), .func (.func 120) #[] #[.pointer (some ⟨w.heap.size + 1, 0, none⟩)], .int .u8 (x.1.toNat : Int), .bool x.2, undef, undef, undef, undef, undef, undef, undef, undef, undef], defers := [] }) ?assign ?body ?done ?stop
  case assign =>
    intro l x W K hK
    have e : ∀ (T : Array Value), ((#[8, 9] : Array Tmp).zip (encD x)).foldl (fun t (y : Tmp × Value) => t.setIfInBounds y.1 y.2) T = (T.setIfInBounds 8 (.int .u8 (x.1.toNat : Int))).setIfInBounds 9 (.bool x.2) := fun T => by simp [encD]
    rw [e]
    gi_wp2
    exact hK
  case body =>
    rintro l' pre x W ⟨v, hb, ho, hB⟩ hpre hsz'
    rw [hsz] at hsz' ⊢
    obtain ⟨A1, n1, cap1, rfl, hn1, hle1, hmx1⟩ := ho.form
    have c0 : W.cell? ⟨w.heap.size, 0, none⟩ = some (.slice A1 n1 cap1) := hb.cell 0
    have f0 := hb.free 0
    have hxm : x ∈ digF 10 n := hpre.subset (by simp)
    have hx := dig_lt 10 n x hxm
    have hpl : pre.length + 1 ≤ 10 := by
      have h1 := hpre.length_le
      have h2 : (digF 10 n).length ≤ 10 := by
        have := putW_len (p64_lt HN.out)
        unfold putW at this
        rw [← dig_put, List.length_map] at this
        exact this
      simp at h1; omega
    have HH := Lib.hid (And.intro hb (And.intro ho hB))
    have HP : Hid (pre.length + 1 ≤ 10) := hpl
    clear hb ho hB hpre hxm hpl
    obtain ⟨xb, xl⟩ := x
    have HL1 : Hid ((pre.map dbyte).length + [dbyte (xb, xl)].length ≤ maxLen) := by
      have := HP.out
      unfold Hid maxLen; simp; omega
    have HL2 : Hid (((pre.map dbyte).length + [dbyte (xb, xl)].length) * 1 ≤ 140737488355328) := by
      have := HP.out
      unfold Hid; simp; omega
    cases xl with
    | true =>
      gi_wp2_with (gi_at_builtin; refine wpListIn_append_sl _ rfl _ _ _ rfl (w.heap.size + 4) 5 i0 _ 1 1 Try.underlying25 hi hz0 hz1 hz3 rfl (by decide) encB_len encB_one (.slice A1 n1 cap1) (pre.map dbyte) (by rfl) (HH.out.2.1.alloc _) _ (some ⟨W.heap.size, 0, none⟩) [dbyte (xb, true)] 1 1 (by rfl) rfl (lit_by W _ 5) HL1.out HL2.out (by simp; omega) ?_; intro v2 w5 hown5 hgrow5 hat5; obtain ⟨A2, n2, cap2, rfl, hn2, hle2, hmx2⟩ := hown5.form; have b5 := PutI.box HH.out hgrow5; have y5 : w5.cell? ⟨w.heap.size, 0, none⟩ = some (.slice A1 n1 cap1) := b5.cell 0; have f5 := b5.free 0; have HG := Lib.hid (And.intro hown5 hgrow5); clear hown5 hgrow5 hat5 b5)
      exact PutI.round hsz' HH.out HG.out.1 HG.out.2
    | false =>
      have e1 : bits .or .u8 (xb.toNat : Int) 128 = ((dbyte (xb, false)).toNat : Int) := or128 xb hx
      gi_wp2_with (gi_at_builtin; refine wpListIn_append_sl _ rfl _ _ _ rfl (w.heap.size + 4) 5 i0 _ 1 1 Try.underlying25 hi hz0 hz1 hz3 rfl (by decide) encB_len encB_one (.slice A1 n1 cap1) (pre.map dbyte) (by rfl) (HH.out.2.1.alloc _) _ (some ⟨W.heap.size, 0, none⟩) [dbyte (xb, false)] 1 1 (by rfl) rfl (lit_by W _ 5) HL1.out HL2.out (by simp; omega) ?_; intro v2 w5 hown5 hgrow5 hat5; obtain ⟨A2, n2, cap2, rfl, hn2, hle2, hmx2⟩ := hown5.form; have b5 := PutI.box HH.out hgrow5; have y5 : w5.cell? ⟨w.heap.size, 0, none⟩ = some (.slice A1 n1 cap1) := b5.cell 0; have f5 := b5.free 0; have HG := Lib.hid (And.intro hown5 hgrow5); clear hown5 hgrow5 hat5 b5)
      exact PutI.round hsz' HH.out HG.out.1 HG.out.2
  case done =>
    rintro W ⟨v, hb, ho, hB⟩ hK
    have c0 : W.cell? ⟨w.heap.size, 0, none⟩ = some v := hb.cell 0
    have hP : PutI w (digF 10 n) W := ⟨v, hb, ho, hB⟩
    gi_wp2
    refine ⟨by simp, .inl ⟨_, _, rfl, run_takeDeferred hK, ?_⟩⟩
    have hc : Chg (fun k => k = w0.heap.size) W (W.putObj w0.heap.size (.deferred none)) := (Chg.refl (fun k => k = w0.heap.size) W).putObj (fun _ => rfl) _
    refine ⟨_, results_tmp (t := 2) rfl _ _ _, v, rfl, ?_, ?_⟩
    · have h := (ho.chg hc (fun g hg h => by have := (ho.lt hg).1; omega)).mono (base' := w.heap.size) (by omega)
      rw [dig_put] at h
      exact h
    · exact hB.trans (hc.below hB.size (fun i hi h => by omega))
  case stop =>
    rintro c pre W h _
    exact h.elim
end Go.Proofs.Ytoneechcclndaaa.Word

namespace Go.Proofs.Ytoneechcclndaaa.Word
open Go.RowKit Go.ChangeShapes Go.WideShapes Go.ChangeAt
set_option linter.unusedVariables false
set_option linter.unusedSimpArgs false
attribute [local go_sem ↓] Go.wp_at_zero Go.wp_at_succ

theorem lit_own (w : World) (d : UInt8) : Own (w.alloc (.cells #[.int .u8 (d.toNat : Int)] 5)) w.heap.size 5 1 encB (.slice (some ⟨w.heap.size, 0, none⟩) 1 1) [d] := by
  refine ⟨flat_length encB_len _, .inr ⟨w.heap.size, 1, #[.int .u8 (d.toNat : Int)], rfl, Nat.le_refl _, heap_alloc_new w _, by simp, by simp [maxLen], by simp, by simp [encB]⟩⟩

theorem Own.retOwn {w w1 : World} {v : Value} {l : List UInt8} (h : Own w1 w.heap.size 5 1 encB v l) (hb : Below w.heap.size w w1) : RetOwn w 5 1 encB l (.returned v) w1 := ⟨v, rfl, h, hb⟩

theorem rput_last {w w1 w2 : World} {v v2 : Value} {l : List UInt8} {d : UInt8} (hd : Own w1 w.heap.size 5 1 encB v [d]) (hb : Below w.heap.size w w1) (hg : w1.grownBy w2 v.ownBlock) (ho : Own w2 w.heap.size 5 1 encB v2 ([d] ++ l)) :
    RetOwn w 5 1 encB (d :: l) (.returned v2) w2 :=
  ⟨v2, rfl, ho, hb.trans ((Chg.of_grown (S := fun k => w.heap.size ≤ k) hg (fun g hg _ => (hd.lt hg).1)).below hb.size (fun i hi h => by omega))⟩

set_option maxRecDepth 100000 in
theorem rput_step (n : Nat) (hn : n < p64) (Hrec : Hid (¬ n < 128 → ∀ w : World, Calls Try.prog 25 #[.int .u64 ((n / 128 : Nat) : Int)] w (RetOwn w 5 1 encB (putW (n / 128))))) (w : World) :
    Calls Try.prog 25 #[.int .u64 (n : Int)] w (RetOwn w 5 1 encB (putW n)) := by
    by_cases h : n < 128
    · have e1 : (n : Int) % 256 = (n : Int) := by omega
      have h1 : (n : Int) < 128 := by omega
      have e2 : Hid (putW n = [UInt8.ofNat n]) := putW_small h
      have e3 : Hid (((UInt8.ofNat n).toNat : Int) = (n : Int)) := by unfold Hid; rw [ofNat_lo h]
      have hk := Lib.hid (lit_own w (UInt8.ofNat n))
      clear hn Hrec
      rw [e3.out] at hk
      go_enter Try.func25, Try.ntmps25
      go_wp2
      go_ret
      rw [e2.out]
      exact Own.retOwn hk.out ((Below.refl _ _).alloc (Nat.le_refl _) _)
    · have h1 : ¬ (n : Int) < 128 := by omega
      obtain ⟨q, hq⟩ : ∃ q : Nat, q = n / 128 := ⟨_, rfl⟩
      obtain ⟨d, hd⟩ : ∃ d : UInt8, d = UInt8.ofNat (n % 128 + 128) := ⟨_, rfl⟩
      have hdn : (d.toNat : Int) = (n : Int) % 128 + 128 := by rw [hd, ofNat_hi]; omega
      have e1 : IntKind.u64.wrap ((n : Int) % 128 + 128) = (d.toNat : Int) := by rw [← hdn]; exact IntWalk.u64_in _ (by have := UInt8.toNat_lt d; omega)
      have e1' : (n : Int) % 128 + 128 = (d.toNat : Int) := hdn.symm
      have e2 : (d.toNat : Int) % 256 = (d.toNat : Int) := by have := UInt8.toNat_lt d; omega
      have e3 : IntKind.u64.wrap ((n : Int).tdiv 128) = (q : Int) := by
        unfold p64 at hn
        rw [IntWalk.u64_quo _ _ (by omega)]; omega
      have e4 : (n : Int) / 128 = (q : Int) := by omega
      have e6 : IntKind.u64.wrap (q : Int) = (q : Int) := by unfold p64 at hn; exact IntWalk.u64_in _ (by omega)
      have hqn : q < p64 := by unfold p64 at *; omega
      have e5 : Hid (putW n = d :: putW q) := by unfold Hid; rw [hq, hd]; exact putW_more h (p64_lt hn)
      have Hrec := Lib.hid (Hrec.out h)
      rw [← hq] at Hrec
      have hk := Lib.hid (lit_own w d)
      have HL := Lib.hid (putW_len (p64_lt hqn))
      obtain ⟨i0, hi, hz0, hz1, hz3⟩ := info_parts byInfo
      have hbb : Below w.heap.size w (w.alloc (.cells #[.int .u8 (d.toNat : Int)] 5)) := (Below.refl _ _).alloc (Nat.le_refl _) _
      have HL1 : Hid ([d].length + (putW q).length ≤ maxLen) := by
        have := HL.out
        unfold Hid maxLen; simp; omega
      have HL2 : Hid (([d].length + (putW q).length) * 1 ≤ 140737488355328) := by
        have := HL.out
        unfold Hid; simp; omega
      clear hn hqn hq hd hdn
      go_enter Try.func25, Try.ntmps25
      go_wp2_with (first | (go_at_call 25; refine (Hrec.out _).mono ?_; rintro e w1 ⟨v1, rfl, ho1, hB1⟩; obtain ⟨A1, n1, cap1, rfl, hn1, hle1, hmx1⟩ := ho1.form; have HO := Lib.hid (And.intro ho1 hB1); clear ho1 hB1) | (at_builtin; refine wpList_append_sl _ rfl _ _ _ rfl w.heap.size 5 i0 _ 1 1 Try.underlying25 hi hz0 hz1 hz3 rfl (by decide) encB_len encB_one (.slice (some ⟨w.heap.size, 0, none⟩) 1 1) [d] (by rfl) (hk.out.below HO.out.2) _ A1 (putW q) n1 cap1 (by rfl) hn1.out (HO.out.1.sls encB_len) HL1.out HL2.out (by have := HO.out.2.size; simp at this; omega) ?_; intro v2 w2 hown hgrow hat))
      go_ret
      rw [e5.out]
      exact rput_last (hk.out.below HO.out.2) (ext_under hbb (by simp) HO.out.2) hgrow hown

theorem rput_any : ∀ (f n : Nat), n < 128 ^ (f + 1) → n < p64 → ∀ w : World, Calls Try.prog 25 #[.int .u64 (n : Int)] w (RetOwn w 5 1 encB (putW n))
  | 0, n, hf, hn => rput_step n hn (Lib.hid (fun h => absurd (by simpa using hf) h))
  | f + 1, n, hf, hn => rput_step n hn (Lib.hid (fun h => rput_any f (n / 128) ((Nat.div_lt_iff_lt_mul (by omega)).2 (by rw [← Nat.pow_succ]; exact hf)) (Nat.lt_of_le_of_lt (Nat.div_le_self _ _) hn)))
theorem rput (n : Nat) (hn : n < p64) (w : World) : Calls Try.prog 25 #[.int .u64 (n : Int)] w (RetOwn w 5 1 encB (putW n)) := rput_any 9 n (p64_lt hn) hn w
end Go.Proofs.Ytoneechcclndaaa.Word

namespace Go.Proofs.Ytoneechcclndaaa.Word
open Go.RowKit Go.ChangeShapes Go.WideShapes Go.ChangeAt
set_option linter.unusedVariables false
set_option linter.unusedSimpArgs false
attribute [local go_sem ↓] Go.wp_at_zero Go.wp_at_succ
attribute [local go_sem] Oper.semAt_some
open Go.Shelf

/-- bytes with their places, the last one first -/
def bk (l : List UInt8) : List (Int × UInt8) := (l.mapIdx fun i b => ((i : Int), b)).reverse
def encK (x : Int × UInt8) : Array Value := #[.int .i64 x.1, .int .u8 (x.2.toNat : Int)]
theorem bk_take {l : List UInt8} {j : Nat} {b : UInt8} (h : l[j]? = some b) : bk (l.take (j + 1)) = ((j : Int), b) :: bk (l.take j) := by
  have hj : j < l.length := (List.getElem?_eq_some_iff.1 h).1
  have e : l.take (j + 1) = l.take j ++ [b] := by rw [List.take_add_one, h]; rfl
  unfold bk
  rw [e, List.mapIdx_append]
  simp only [List.mapIdx_cons, List.mapIdx_nil, List.reverse_append, List.reverse_cons, List.reverse_nil, List.nil_append, List.cons_append, List.length_take]
  rw [Nat.min_eq_left (by omega)]
  simp
theorem bk_snd (l : List UInt8) : (bk l).map Prod.snd = l.reverse := by
  unfold bk
  rw [List.map_reverse]
  congr 1
  apply List.ext_getElem?
  intro i
  simp
  cases l[i]? <;> simp

theorem backward_any (A : Option Addr) (n cap : Nat) (w : World) : Calls Try.prog 123 #[.slice A n cap] w fun e w' => e = .returned (.func (.func 126) #[] #[.pointer (some ⟨w.heap.size, 0, none⟩)]) ∧ w.alloc (.cells #[.slice A n cap] 25) = w' := by
  go_enter Try.func123, Try.ntmps123
  go_wp2
  go_ret
  exact ⟨rfl, rfl⟩

theorem backward_iter (lv : Nat) (l : List UInt8) (A : Option Addr) (n cap bl : Nat) (w : World) (hl : BySl w w.heap.size A l) (hn : Hid (n = l.length)) (hm : n ≤ 1000000) (hbl : w.cell? ⟨bl, 0, none⟩ = some (.slice A n cap)) :
    IterT lv Try.prog 126 #[.pointer (some ⟨bl, 0, none⟩)] encK (bk l) (fun _ => False) (fun k => k = bl ∨ blockOf A = some k) w := by
  intro l' J Jx W hW hl1 hl2 hJ hJx hY h0
  have HY := Lib.hid hY
  have HJ := Lib.hid hJ
  have hbl' : W.cell? ⟨bl, 0, none⟩ = some (.slice A n cap) := (hW.cell (World.block_lt_of_cell? w _ hbl)).trans hbl
  have hlW : BySl W W.heap.size A l := hl.ext hW
  have HH := Lib.hid (And.intro hbl' (And.intro hlW h0))
  clear hY hJ hJx h0 hbl hl hlW
  have w0 : IntKind.i64.wrap ((n : Int) - 1) = (n : Int) - 1 := IntWalk.i64_in _ (by omega)
  refine callsIn_of_wp Try.func126 rfl trivial ?_ rfl
  simp only [Try.ntmps126, List.size_toArray, List.length_cons, List.length_nil, Nat.reduceAdd, Nat.reduceSub, Array.replicate_succ, Array.replicate_zero, List.push_toArray, List.append_toArray, List.nil_append, List.cons_append]
  gi_wp2
  gi_loopg [3] n (fun g vj wr => vj = .int .i64 ((g : Int) - 1) ∧ g ≤ n ∧ ∃ pre, Hid (bk l = pre ++ bk (l.take g)) ∧ J pre wr ∧ wr.cell? ⟨bl, 0, none⟩ = some (.slice A n cap) ∧ BySl wr wr.heap.size A l ∧ W.heap.size ≤ wr.heap.size)
  case atStart => exact ⟨rfl, by omega, [], by rw [Hid, hn.out, List.take_length]; rfl, HH.out.2.2, HH.out.1, HH.out.2.1, Nat.le_refl _⟩
  case round =>
    obtain ⟨rfl, hg, pre, hpre, hJp, hc, hs, hsz⟩ := hrel
    rcases gk with _ | j
    · gi_wp2
      go_end0
      exact ⟨⟨_, rfl⟩, .inl (by rw [hpre.out]; simpa [bk] using hJp)⟩
    · have hx : l[j]? = some l[j] := List.getElem?_eq_getElem (by rw [← hn.out]; omega)
      obtain ⟨bb, off, rfl, hbb, c0⟩ := BySl.at_ hs hx
      have Hx := Lib.hid hx
      generalize l[j] = b at *
      have b0 : (0 : Int) ≤ (j : Int) := Int.natCast_nonneg _
      have b1 : (j : Int) < (n : Int) := by omega
      have b2 : ((j + 1 : Nat) : Int) - 1 = (j : Int) := by omega
      have b3 : IntKind.i64.wrap ((j : Int) - 1) = (j : Int) - 1 := IntWalk.i64_in _ (by omega)
      have hX : Hid (bk l = pre ++ ((j : Int), b) :: bk (l.take j)) := by rw [Hid, hpre.out, bk_take hx]
      obtain ⟨fn5, tm5, as5, bd5, hy5, hR5⟩ := HY.out pre ((j : Int), b) wr hJp ⟨bk (l.take j), by rw [hX.out]; simp⟩ hsz
      simp only [encK] at hy5
      have HS := Lib.hid hs
      clear hx hs
      gi_wp2
      refine ⟨(fun h => by cases h), hR5.mono ?_⟩
      rintro e W' (⟨rfl, hJ', hk⟩ | ⟨rfl, hJx'⟩)
      · gi_wp2
        gi_roundg j
        case measure => omega
        case rel =>
          refine ⟨by go_num, by omega, pre ++ [((j : Int), b)], by rw [Hid, hX.out]; simp, hJ', (hk.cell (p := ⟨bl, 0, none⟩) (World.block_lt_of_cell? wr _ hc) (fun h => h (.inl rfl))).trans hc, HS.out.chg hk (fun g hg h => h (.inr hg)), Nat.le_trans hsz hk.size⟩
      · gi_wp2
        refine bodyPost_ret (results_none rfl _ _ _) rfl ?_
        exact ⟨⟨_, rfl⟩, .inr ⟨_, hJx'⟩⟩

theorem low_any (d : UInt8) (w : World) : Calls Try.prog 122 #[.int .u8 (d.toNat : Int)] w fun e w' => e = .returned (.bool (decide (d.toNat < 128))) ∧ w = w' := by
  have e : decide ((d.toNat : Int) < 128) = decide (d.toNat < 128) := by
    by_cases h : d.toNat < 128 <;> simp [h] <;> omega
  have He := Lib.hid e
  clear e
  go_enter Try.func122, Try.ntmps122
  go_wp2
  go_ret
  exact ⟨by rw [← He.out]; rfl, rfl⟩
end Go.Proofs.Ytoneechcclndaaa.Word
