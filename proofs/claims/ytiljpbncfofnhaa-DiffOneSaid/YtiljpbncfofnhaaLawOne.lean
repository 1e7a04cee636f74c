/- DiffOne: with one fragment's text another one, with its place another one, one edit more tells it; all else is kept: whatever the input, the law returns true and leaves its arguments as they were. -/
import Derived.Test.YtiljpbncfofnhaaDfS
import Derived.Test.YtiljpbncfofnhaaDfW
import Derived.Test.YtiljpbncfofnhaaOpen
import Derived.Test.YtiljpbncfofnhaaLift
import Derived.Outline
import Derived.BigQuiet
import Derived.Deep.QuietTactic
import Derived.Deep.RegionWith
import Derived.Deep.RegionHeld3
import Derived.Deep.DrawnRows
import Derived.Deep.LoopGhost
import Derived.Deep.DeepCutAuto
import Derived.Laws.EntriesVeiled
import Derived.BigQuiet
namespace Go.Proofs.Ytiljpbncfofnhaa.lawOne
open Go.RowKit Go.ChangeShapes Go.WideShapes Go.ChangeAt
set_option linter.unusedVariables false
set_option linter.unusedSimpArgs false
attribute [local go_sem ↓] Go.wp_at_zero Go.wp_at_succ
open FragA FragB MayA Tree FCheck EdB EdC EdF Dif
theorem wrapmod (z : Int) (n : Nat) (hn : 1 ≤ n) : ∃ v : Nat, (IntKind.u64.wrap z).tmod (n : Int) = (v : Int) ∧ v < n := by
  have h : 0 ≤ IntKind.u64.wrap z := by simp [IntKind.wrap, IntKind.bits, IntKind.signed]; omega
  have h1 := Int.tmod_nonneg (n : Int) h
  have h2 := Int.tmod_lt_of_pos (IntKind.u64.wrap z) (show (0 : Int) < (n : Int) by omega)
  exact ⟨((IntKind.u64.wrap z).tmod (n : Int)).toNat, by omega, by omega⟩
theorem own_empty (W : World) : OwnA (W.alloc (.cells #[] 67)) 67 8 Fr.cells (.slice (some ⟨W.heap.size, 0, none⟩) 0 0) ([] : List Fr) :=
  .inr ⟨W.heap.size, 0, 0, #[], rfl, heap_alloc_new W _, Nat.le_refl _, by simp [maxLen], by simp, rfl⟩
/-- two copies of the call's own, apart -/
structure Two (w wr : World) (A9 A8 : Option Addr) (n9 c9 n8 c8 : Nat) (l m : List Fr) : Prop where
  b : OwnA wr 67 8 Fr.cells (.slice A9 n9 c9) l
  c : OwnA wr 67 8 Fr.cells (.slice A8 n8 c8) m
  ne : ∀ g, (Value.slice A9 n9 c9).ownBlock = some g → (Value.slice A8 n8 c8).ownBlock ≠ some g
  fb : ∀ g, (Value.slice A9 n9 c9).ownBlock = some g → w.heap.size ≤ g
  fc : ∀ g, (Value.slice A8 n8 c8).ownBlock = some g → w.heap.size ≤ g
  be : Below w.heap.size w wr
theorem Two.ext {w wr w' : World} {A9 A8 : Option Addr} {n9 c9 n8 c8 : Nat} {l m : List Fr} (h : Two w wr A9 A8 n9 c9 n8 c8 l m) (hb : Below wr.heap.size wr w') : Two w w' A9 A8 n9 c9 n8 c8 l m := ⟨h.b.ext hb, h.c.ext hb, h.ne, h.fb, h.fc, ext_under h.be (Nat.le_refl _) hb⟩
theorem Two.make {w w2 w9 w10 : World} {A9 A8 : Option Addr} {n9 c9 n8 c8 : Nat} {a : List Fr} (h2 : Below w.heap.size w w2) (h9 : Below w.heap.size w w9)
    (H9 : OwnA w9 67 8 Fr.cells (.slice A9 n9 c9) ([] ++ a) ∧ Chg (fun k => (Value.slice (some ⟨w2.heap.size, 0, none⟩) 0 0).ownBlock = some k) (w2.alloc (.cells #[] 67)) w9 ∧ ((Value.slice A9 n9 c9).ownBlock = (Value.slice (some ⟨w2.heap.size, 0, none⟩) 0 0).ownBlock ∨ (Value.slice A9 n9 c9).ownBlock = some (w2.alloc (.cells #[] 67)).heap.size))
    (H10 : OwnA w10 67 8 Fr.cells (.slice A8 n8 c8) ([] ++ a) ∧ Chg (fun k => (Value.slice (some ⟨w9.heap.size, 0, none⟩) 0 0).ownBlock = some k) (w9.alloc (.cells #[] 67)) w10 ∧ ((Value.slice A8 n8 c8).ownBlock = (Value.slice (some ⟨w9.heap.size, 0, none⟩) 0 0).ownBlock ∨ (Value.slice A8 n8 c8).ownBlock = some (w9.alloc (.cells #[] 67)).heap.size)) :
    Two w w10 A9 A8 n9 c9 n8 c8 a a := by
  obtain ⟨o9, g9, t9⟩ := H9
  obtain ⟨o10, g10, t10⟩ := H10
  rw [List.nil_append] at o9 o10
  have s2 := h2.size
  have s9 := h9.size
  have hnew : ∀ g, (Value.slice A8 n8 c8).ownBlock = some g → w9.heap.size ≤ g := fun g e => by
    rcases t10 with h | h
    · rw [h] at e; simp [Value.ownBlock] at e; omega
    · rw [h] at e; injection e with e; simp at e; omega
  have hold : ∀ g, (Value.slice A9 n9 c9).ownBlock = some g → g < w9.heap.size := fun g e => o9.lt e
  refine ⟨(o9.ext (EdF.below_a w9 _)).chg g10 (fun g e h => by simp [Value.ownBlock] at h; have := hold g e; omega), o10, fun g e h => by have := hold g e; have := hnew g h; omega, fun g e => ?_, fun g e => by have := hnew g e; omega, ?_⟩
  · rcases t9 with h | h
    · rw [h] at e; simp [Value.ownBlock] at e; omega
    · rw [h] at e; injection e with e; simp at e; omega
  · exact ext_under h9 (Nat.le_refl _) ((EdF.below_a w9 (.cells #[] 67)).trans (g10.below (by simp) (fun i hi e => by simp [Value.ownBlock] at e; omega)))
theorem Two.set {w wr : World} {vb vo ub uo n9 c9 n8 c8 k : Nat} {l m : List Fr} {f g : Fr} {t : ByteArray} {x : Int} (h : Two w wr (some ⟨vb, vo, none⟩) (some ⟨ub, uo, none⟩) n9 c9 n8 c8 l m) (hl : l[k]? = some f) (hm : m[k]? = some g) :
    Two w ((wr.setCell ⟨vb, vo + k * 8 + 7, none⟩ (.string t)).setCell ⟨ub, uo + k * 8 + 3, none⟩ (.int .i64 x)) (some ⟨vb, vo, none⟩) (some ⟨ub, uo, none⟩) n9 c9 n8 c8 (l.set k (withText f t)) (m.set k (withX g x)) := by
  have hne : vb ≠ ub := fun e => h.ne vb rfl (by rw [e]; rfl)
  have s1 : Chg (fun i => i = vb) wr (wr.setCell ⟨vb, vo + k * 8 + 7, none⟩ (.string t)) := (Chg.refl (fun i => i = vb) wr).setCell (p := ⟨vb, _, none⟩) (fun _ => rfl) _
  have s2 : Chg (fun i => i = ub) (wr.setCell ⟨vb, vo + k * 8 + 7, none⟩ (.string t)) ((wr.setCell ⟨vb, vo + k * 8 + 7, none⟩ (.string t)).setCell ⟨ub, uo + k * 8 + 3, none⟩ (.int .i64 x)) := (Chg.refl (fun i => i = ub) _).setCell (p := ⟨ub, _, none⟩) (fun _ => rfl) _
  have b1 := h.b.store Fr.cells_len hl (j := 7) (x' := withText f t) (u := .string t) (by omega) rfl
  have c1 := h.c.chg s1 (fun g hg e => by simp [Value.ownBlock] at hg; omega)
  have c2 := c1.store Fr.cells_len hm (j := 3) (x' := withX g x) (u := .int .i64 x) (by omega) rfl
  have b2 := b1.chg s2 (fun g hg e => by simp [Value.ownBlock] at hg; omega)
  exact ⟨b2, c2, h.ne, h.fb, h.fc, (h.be.setCell (by simpa using h.fb vb rfl) _).setCell (by simpa using h.fc ub rfl) _⟩
theorem kinds_take {k : Int} {l : List Ed} {j : Nat} {e : Ed} (h : l[j]? = some e) : kindsE k (l.take (j + 1)) = kindsE k (l.take j) + (if e.kind == k then 1 else 0) := by
  rw [List.take_add_one, h]
  simp only [kindsE, Option.toList_some, List.countP_append, List.countP_singleton]
set_option maxRecDepth 100000 in
set_option maxHeartbeats 8000000 in
theorem walk (a : List Fr) (i : Int) (t : ByteArray) (x : Int) (A : Option Addr) (ca : Nat) (w : World) (ha : FrSl w w.heap.size A a) (h63 : a.length ≤ maxLen) (hwa : FrsWf a) :
    Calls Try.prog 10 #[.slice A a.length ca, .int .i64 i, .string t, .int .i64 x] w fun e w' => e = .returned (.bool true) ∧ Below w.heap.size w w' := by
  obtain ⟨na, hna⟩ : ∃ n, Hid (n = a.length) := ⟨_, rfl⟩
  have G1 := fun W (hW : Below w.heap.size w W) => Lib.hid (by have h := great_any a A ca W (slw ha hW) h63 hwa; rw [← hna.out] at h; exact h)
  have C1 := fun W (hW : Below w.heap.size w W) => Lib.hid (FCheck.check_any a A na ca W (slw ha hW) hwa hna)
  rw [← hna.out] at h63 ⊢
  have HA := Lib.hid (And.intro ha hwa)
  have HAw := fun W => Lib.hid (awake_any W)
  clear ha hwa
  cases g1 : greatFrom 0 0 a with
  | true =>
    simp only [g1] at G1
    clear g1
    go_enter Try.func10, Try.ntmps10; go_wp2_with fail; refine ((HAw _).out).mono ?_; rintro e w1 ⟨rfl, hb1⟩; have HB1 := Lib.hid hb1; clear hb1; go_wp2_with fail; refine ((G1 _ HB1.out).out).mono ?_; rintro e w' ⟨rfl, rfl⟩
    go_wp2
    go_ret
    exact ⟨rfl, HB1.out⟩
  | false =>
    have hl200 := great_le g1
    simp only [g1] at G1
    rw [← hna.out] at hl200
    clear g1
    by_cases hc : ¬ chk a = 0
    · obtain ⟨y, hy⟩ : ∃ y, chk a = y := ⟨_, rfl⟩
      simp only [hy] at C1
      rw [hy] at hc
      have hy1 : (y == 0) = false := by simpa using hc
      have hy2 : (y != 0) = true := by simp [hc]
      clear hc hy
      go_enter Try.func10, Try.ntmps10; go_wp2_with fail; refine ((HAw _).out).mono ?_; rintro e w1 ⟨rfl, hb1⟩; have HB1 := Lib.hid hb1; clear hb1; go_wp2_with fail; refine ((G1 _ HB1.out).out).mono ?_; rintro e w' ⟨rfl, rfl⟩
      go_wp2_with fail; refine ((C1 _ HB1.out).out).mono ?_; rintro e w2 ⟨rfl, hb2⟩; have HB2 := Lib.hid (ext_under HB1.out (Nat.le_refl _) hb2); clear hb2
      go_wp2
      go_ret
      exact ⟨rfl, HB2.out⟩
    have hc : chk a = 0 := Decidable.not_not.1 hc
    simp only [hc] at C1
    by_cases ht : 100 < t.size
    · have ht1 : decide (100 < t.size) = true := decide_eq_true ht
      have ht2 : (100 : Int) < (t.size : Int) := by omega
      go_enter Try.func10, Try.ntmps10; go_wp2_with fail; refine ((HAw _).out).mono ?_; rintro e w1 ⟨rfl, hb1⟩; have HB1 := Lib.hid hb1; clear hb1; go_wp2_with fail; refine ((G1 _ HB1.out).out).mono ?_; rintro e w' ⟨rfl, rfl⟩
      go_wp2_with fail; refine ((C1 _ HB1.out).out).mono ?_; rintro e w2 ⟨rfl, hb2⟩; have HB2 := Lib.hid (ext_under HB1.out (Nat.le_refl _) hb2); clear hb2
      go_wp2
      go_ret
      exact ⟨rfl, HB2.out⟩
    have ht1 : decide (100 < t.size) = false := decide_eq_false ht
    have ht2 : ¬ (100 : Int) < (t.size : Int) := by omega
    by_cases hx1 : x < -1099511627776
    · go_enter Try.func10, Try.ntmps10; go_wp2_with fail; refine ((HAw _).out).mono ?_; rintro e w1 ⟨rfl, hb1⟩; have HB1 := Lib.hid hb1; clear hb1; go_wp2_with fail; refine ((G1 _ HB1.out).out).mono ?_; rintro e w' ⟨rfl, rfl⟩
      go_wp2_with fail; refine ((C1 _ HB1.out).out).mono ?_; rintro e w2 ⟨rfl, hb2⟩; have HB2 := Lib.hid (ext_under HB1.out (Nat.le_refl _) hb2); clear hb2
      go_wp2
      go_ret
      exact ⟨rfl, HB2.out⟩
    by_cases hx2 : 1099511627776 < x
    · go_enter Try.func10, Try.ntmps10; go_wp2_with fail; refine ((HAw _).out).mono ?_; rintro e w1 ⟨rfl, hb1⟩; have HB1 := Lib.hid hb1; clear hb1; go_wp2_with fail; refine ((G1 _ HB1.out).out).mono ?_; rintro e w' ⟨rfl, rfl⟩
      go_wp2_with fail; refine ((C1 _ HB1.out).out).mono ?_; rintro e w2 ⟨rfl, hb2⟩; have HB2 := Lib.hid (ext_under HB1.out (Nat.le_refl _) hb2); clear hb2
      go_wp2
      go_ret
      exact ⟨rfl, HB2.out⟩
    have hpos : 1 ≤ na := by
      have h := (FCheck.chk_zero hc).2.1
      rw [hna.out]
      rcases a with _ | ⟨q, r⟩
      · exact absurd rfl h
      · simp
    obtain ⟨k, hk, hkn⟩ := wrapmod i na hpos
    obtain ⟨f, hf⟩ : ∃ f, a[k]? = some f := ⟨_, List.getElem?_eq_getElem (by rw [← hna.out]; exact hkn)⟩
    obtain ⟨b0, b1, b2, b3⟩ := one_text hc hf (t := t) (by omega)
    obtain ⟨p0, p1, p2, p3⟩ := one_place hc hf (x := x) (by omega) (by omega)
    have HK := Lib.hid (And.intro b3 p3)
    have E3 : Hid (diffE a (a.set k (withText f t)) = (diffL a (a.set k (withText f t)), 0)) := by rw [Hid, diffE, if_neg (by simp [hc, b0])]
    have E4 : Hid (diffE a (a.set k (withX f x)) = (diffL a (a.set k (withX f x)), 0)) := by rw [Hid, diffE, if_neg (by simp [hc, p0])]
    obtain ⟨lb, hlb⟩ : ∃ l, Hid (diffL a (a.set k (withText f t)) = l) := ⟨_, rfl⟩
    obtain ⟨lc, hlc⟩ : ∃ l, Hid (diffL a (a.set k (withX f x)) = l) := ⟨_, rfl⟩
    rw [hlb.out] at b1 b2 HK E3
    rw [hlc.out] at p1 p2 HK E4
    have hff := HA.out.2 f (List.mem_of_getElem? hf)
    have HWb : Hid (FrsWf (a.set k (withText f t))) := fun q hq => by
      rcases List.mem_or_eq_of_mem_set hq with h | h
      · exact HA.out.2 q h
      · rw [h]; exact ⟨hff.node, hff.part, hff.depth, hff.x, hff.y, hff.w, hff.h, by simp only [withText]; omega⟩
    have HWc : Hid (FrsWf (a.set k (withX f x))) := fun q hq => by
      rcases List.mem_or_eq_of_mem_set hq with h | h
      · exact HA.out.2 q h
      · rw [h]; exact ⟨hff.node, hff.part, hff.depth, WalkArith.wf_i64 (show -9223372036854775808 ≤ x ∧ x ≤ 9223372036854775807 by omega), hff.y, hff.w, hff.h, hff.text⟩
    have HF := Lib.hid hf
    obtain ⟨j0, hj, hjz, hjz1, hjz2⟩ := info_parts frInfo
    have f1 : IntKind.u64.wrap (na : Int) = (na : Int) := IntWalk.u64_in _ (by omega)
    have f2 : IntKind.i64.wrap (k : Int) = (k : Int) := IntWalk.i64_in _ (by omega)
    have g2 : ((na : Int) == 0) = false := by simp; omega
    have g4 : ¬ (na : Int) = 0 := by omega
    have g5 : ¬ na = 0 := by omega
    have c1 : (0 : Int) ≤ (k : Int) := Int.natCast_nonneg _
    have c2 : (k : Int) < (na : Int) := by omega
    have a1 : Hid (([] : List Fr).length + a.length ≤ maxLen) := by rw [Hid, ← hna.out]; simp; omega
    have a2 : Hid ((([] : List Fr).length + a.length) * 72 ≤ 140737488355328) := by rw [Hid, ← hna.out]; simp; omega
    clear hc b0 b3 p0 p3 hff hf
    go_enter Try.func10, Try.ntmps10; go_wp2_with fail; refine ((HAw _).out).mono ?_; rintro e w1 ⟨rfl, hb1⟩; have HB1 := Lib.hid hb1; clear hb1; go_wp2_with fail; refine ((G1 _ HB1.out).out).mono ?_; rintro e w' ⟨rfl, rfl⟩
    go_wp2_with fail; refine ((C1 _ HB1.out).out).mono ?_; rintro e w2 ⟨rfl, hb2⟩; have HB2 := Lib.hid (ext_under HB1.out (Nat.le_refl _) hb2); clear hb2
    have HBe := Lib.hid (ext_under HB2.out (Nat.le_refl _) (EdF.below_a w2 (.cells #[] 67)))
    have O1 := Lib.hid (own_empty w2)
    have L1 := Lib.hid (slw HA.out.1 HBe.out)
    go_wp2_with (first
      | (at_builtin; refine wpList_append_a _ rfl _ _ _ rfl 67 j0 _ 8 72 Try.underlying59 hj hjz hjz1 hjz2 rfl (by decide) Fr.cells_len Fr.cells_one (.slice (some ⟨w2.heap.size, 0, none⟩) 0 0) ([] : List Fr) (by rfl) O1.out _ A a na ca (by rfl) hna.out L1.out a1.out a2.out ?_; intro v' w9 hown hchg hat; obtain ⟨A9, n9, c9, rfl, _, _, _, _⟩ := hown.form; have H9 := Lib.hid (And.intro hown (And.intro hchg hat)); clear hown hchg hat; have hb9 : Below w2.heap.size w2 w9 := (EdF.below_a w2 (.cells #[] 67)).trans (H9.out.2.1.below (by simp) (fun i hi e => by simp [Value.ownBlock] at e; omega)); have HB9 := Lib.hid (ext_under HB2.out (Nat.le_refl _) hb9); clear hb9; have O2 := Lib.hid (own_empty w9); have L2 := Lib.hid (slw HA.out.1 (ext_under HB9.out (Nat.le_refl _) (EdF.below_a w9 (.cells #[] 67)))))
      | (at_builtin; refine wpList_append_a _ rfl _ _ _ rfl 67 j0 _ 8 72 Try.underlying59 hj hjz hjz1 hjz2 rfl (by decide) Fr.cells_len Fr.cells_one (.slice (some ⟨w9.heap.size, 0, none⟩) 0 0) ([] : List Fr) (by rfl) O2.out _ A a na ca (by rfl) hna.out L2.out a1.out a2.out ?_; intro v' w10 hown hchg hat; obtain ⟨A8, n8, c8, rfl, _, _, _, _⟩ := hown.form; have H10 := Lib.hid (And.intro hown (And.intro hchg hat)); clear hown hchg hat; have HT := Lib.hid (Two.make HB2.out HB9.out H9.out H10.out); obtain rfl : n9 = na := (OwnA.len HT.out.b).trans hna.out.symm; obtain rfl : n8 = n9 := (OwnA.len HT.out.c).trans hna.out.symm; obtain ⟨vb, vo, rfl, hvb, -, -, -, -, -, -, -, y7⟩ := FrSl.at_ (HT.out.b.sl Fr.cells_len) HF.out; obtain ⟨ub, uo, rfl, hub, -, -, -, x3, -, -, -, -⟩ := FrSl.at_ (HT.out.c.sl Fr.cells_len) HF.out; have hne : vb ≠ ub := (fun e => HT.out.ne vb rfl (by rw [e]; rfl)); have hne2 : ub ≠ vb := (fun e => hne e.symm); have fz1 : w10.frozen? ⟨vb, vo + k * 8 + 7, none⟩ = false := (by obtain ⟨_, _, cur, _, hh, _⟩ := HT.out.b.row (g := vb) rfl; exact frozen_of_row w10 vb _ cur _ hh); have fz2 : w10.frozen? ⟨ub, uo + k * 8 + 3, none⟩ = false := (by obtain ⟨_, _, cur, _, hh, _⟩ := HT.out.c.row (g := ub) rfl; exact frozen_of_row w10 ub _ cur _ hh); have HT2 := Lib.hid (HT.out.set (t := t) (x := x) HF.out HF.out); clear H9 H10))
    generalize (w10.setCell ⟨vb, vo + k * 8 + 7, none⟩ (.string t)).setCell ⟨ub, uo + k * 8 + 3, none⟩ (.int .i64 x) = W0 at *
    have hnb : Hid (n8 = (a.set k (withText f t)).length) := by rw [Hid, List.length_set]; exact hna.out
    have hnc : Hid (n8 = (a.set k (withX f x)).length) := by rw [Hid, List.length_set]; exact hna.out
    have D1 := Lib.hid (diff_any a (a.set k (withText f t)) A (some ⟨vb, vo, none⟩) n8 ca n8 c9 W0 (slw HA.out.1 HT2.out.be) HA.out.2 hna (HT2.out.b.sl Fr.cells_len) HWb.out hnb)
    rw [E3.out] at D1
    clear y7 x3 fz1 fz2 hne hne2 hvb hub HT L1 L2 O1 O2 HBe HB9
    refine (D1.out).mono ?_; rintro e w11 ⟨A5, n5, c5, rfl, ho5, _, hb5⟩
    have hn5 : n5 = lb.length := OwnA.len ho5
    have HT3 := Lib.hid (HT2.out.ext hb5)
    have HE5 := Lib.hid (ho5.sl Ed.cells_len)
    have D2 := Lib.hid (diff_any a (a.set k (withX f x)) A (some ⟨ub, uo, none⟩) n8 ca n8 c8 w11 (slw HA.out.1 HT3.out.be) HA.out.2 hna (HT3.out.c.sl Fr.cells_len) HWc.out hnc)
    rw [E4.out] at D2
    have Hn5 := Lib.hid hn5
    clear ho5 hb5 D1 HT2 hn5
    go_wp2_with fail
    refine (D2.out).mono ?_; rintro e w12 ⟨A6, n6, c6, rfl, ho6, _, hb6⟩
    have hn6 : n6 = lc.length := OwnA.len ho6
    have HB12 := Lib.hid (ext_under HT3.out.be (Nat.le_refl _) hb6)
    have HE5 := Lib.hid (slw HE5.out hb6)
    have HE6 := Lib.hid (ho6.sl Ed.cells_len)
    have Hn6 := Lib.hid hn6
    have P1 := Lib.hid (EdB.puts_any lb A5 c5 w12 HE5.out (by unfold maxLen; omega))
    rw [← Hn5.out, b2] at P1
    have hl5 : n5 ≤ 3 := by rw [Hn5.out]; exact b1
    have hl6 : n6 ≤ 3 := by rw [Hn6.out]; exact p1
    have t5 : decide (3 < n5) = false := decide_eq_false (by omega)
    have t6 : decide (3 < n6) = false := decide_eq_false (by omega)
    have t7 : ¬ (3 : Int) < (n5 : Int) := by omega
    have t8 : ¬ (3 : Int) < (n6 : Int) := by omega
    clear ho6 hb6 D2 HT3 hn6
    go_wp2_with fail
    refine (P1.out).mono ?_; rintro e w13 ⟨rfl, hb7⟩
    have HB13 := Lib.hid (ext_under HB12.out (Nat.le_refl _) hb7)
    have HE5 := Lib.hid (slw HE5.out hb7)
    have HE6 := Lib.hid (slw HE6.out hb7)
    have P2 := Lib.hid (EdB.puts_any lc A6 c6 w13 HE6.out (by unfold maxLen; omega))
    rw [← Hn6.out, p2] at P2
    clear hb7 P1
    go_wp2_with fail
    refine (P2.out).mono ?_; rintro e w14 ⟨rfl, hb8⟩
    have HB14 := Lib.hid (ext_under HB13.out (Nat.le_refl _) hb8)
    have HE5 := Lib.hid (slw HE5.out hb8)
    have HE6 := Lib.hid (slw HE6.out hb8)
    clear hb8 P2
    go_wp2
    go_loopg [15, 17] n5 (fun gk v15 v17 wr => ∃ (j q : Nat), n5 ≤ j + gk ∧ j ≤ n5 ∧ q ≤ j ∧ v15 = .int .i64 (q : Int) ∧ v17 = .int .i64 (j : Int) ∧ Hid (kindsE 5 (lb.take j) = q) ∧ w14 = wr)
    case atStart => exact ⟨0, 0, by omega, by omega, by omega, rfl, rfl, rfl, rfl⟩
    case round =>
      obtain ⟨j, q, hgj, hjn, hqj, rfl, rfl, hq, rfl⟩ := hrel
      by_cases hlt : j < n5
      · obtain ⟨e, hx⟩ : ∃ e, lb[j]? = some e := ⟨_, List.getElem?_eq_getElem (by rw [← Hn5.out]; exact hlt)⟩
        obtain ⟨eb, eo, rfl, heb, y0, -, -, -, -, -, -, -, -, -, -, -⟩ := EdSl.at_ HE5.out hx
        have hkt := kinds_take (k := 5) hx
        rw [hq.out] at hkt
        have HKt := Lib.hid hkt
        have d1 : (0 : Int) ≤ (j : Int) := Int.natCast_nonneg _
        have d2 : (j : Int) < (n5 : Int) := by omega
        have d3 : IntKind.i64.wrap ((q : Int) + 1) = ((q + 1 : Nat) : Int) := by rw [IntWalk.i64_in _ (by omega)]; omega
        clear hx hkt hq
        cases hek : (e.kind == 5) with
        | true =>
          rw [hek] at HKt
          go_wp2
          go_roundg (gk - 1)
          case measure => omega
          case rel => exact ⟨j + 1, q + 1, by omega, by omega, by omega, rfl, by go_num, HKt, rfl⟩
        | false =>
          rw [hek] at HKt
          go_wp2
          go_roundg (gk - 1)
          case measure => omega
          case rel => exact ⟨j + 1, q, by omega, by omega, by omega, rfl, by go_num, HKt, rfl⟩
      · have hq5 : Hid (q = kindsE 5 lb) := by rw [Hid, ← hq.out, List.take_of_length_le (by rw [← Hn5.out]; omega)]
        have HQ5 := Lib.hid (hq5.out.trans HK.out.1)
        clear hq hq5
        generalize gk = g0 at *
        go_wp2
        go_loopg [16, 18] n6 (fun gk v16 v18 wr => ∃ (j r : Nat), n6 ≤ j + gk ∧ j ≤ n6 ∧ r ≤ j ∧ v16 = .int .i64 (r : Int) ∧ v18 = .int .i64 (j : Int) ∧ Hid (kindsE 4 (lc.take j) = r) ∧ w14 = wr)
        case atStart => exact ⟨0, 0, by omega, by omega, by omega, rfl, rfl, rfl, rfl⟩
        case round =>
          obtain ⟨j2, r, hgj2, hjn2, hrj, rfl, rfl, hr, rfl⟩ := hrel
          by_cases hlt2 : j2 < n6
          · obtain ⟨e, hx⟩ : ∃ e, lc[j2]? = some e := ⟨_, List.getElem?_eq_getElem (by rw [← Hn6.out]; exact hlt2)⟩
            obtain ⟨eb, eo, rfl, heb, y0, -, -, -, -, -, -, -, -, -, -, -⟩ := EdSl.at_ HE6.out hx
            have hkt := kinds_take (k := 4) hx
            rw [hr.out] at hkt
            have HKt := Lib.hid hkt
            have d1 : (0 : Int) ≤ (j2 : Int) := Int.natCast_nonneg _
            have d2 : (j2 : Int) < (n6 : Int) := by omega
            have d3 : IntKind.i64.wrap ((r : Int) + 1) = ((r + 1 : Nat) : Int) := by rw [IntWalk.i64_in _ (by omega)]; omega
            clear hx hkt hr
            cases hek : (e.kind == 4) with
            | true =>
              rw [hek] at HKt
              go_wp2
              go_roundg (gk - 1)
              case measure => omega
              case rel => exact ⟨j2 + 1, r + 1, by omega, by omega, by omega, rfl, by go_num, HKt, rfl⟩
            | false =>
              rw [hek] at HKt
              go_wp2
              go_roundg (gk - 1)
              case measure => omega
              case rel => exact ⟨j2 + 1, r, by omega, by omega, by omega, rfl, by go_num, HKt, rfl⟩
          · have hr4 : Hid (r = kindsE 4 lc) := by rw [Hid, ← hr.out, List.take_of_length_le (by rw [← Hn6.out]; omega)]
            have HR4 := Lib.hid (hr4.out.trans HK.out.2)
            obtain ⟨ab, ao, rfl, hab, -, -, -, z3, -, -, -, z7⟩ := FrSl.at_ (slw HA.out.1 HB14.out) HF.out
            clear hr hr4
            cases htx : (f.text.toList == t.toList) with
            | true =>
              have hq0 : q = 0 := by have h := HQ5.out; rw [htx] at h; exact h
              have htx2 : (f.text.toList != t.toList) = false := by rw [bne, htx]; rfl
              subst hq0
              cases hxx : (f.x == x) with
              | true =>
                have hr0 : r = 0 := by have h := HR4.out; rw [hxx] at h; exact h
                have hxx2 : (f.x != x) = false := by rw [bne, hxx]; rfl
                subst hr0
                go_wp2
                go_ret
                exact ⟨rfl, HB14.out⟩
              | false =>
                have hr0 : r = 1 := by have h := HR4.out; rw [hxx] at h; exact h
                have hxx2 : (f.x != x) = true := by rw [bne, hxx]; rfl
                subst hr0
                go_wp2
                go_ret
                exact ⟨rfl, HB14.out⟩
            | false =>
              have hq0 : q = 1 := by have h := HQ5.out; rw [htx] at h; exact h
              have htx2 : (f.text.toList != t.toList) = true := by rw [bne, htx]; rfl
              subst hq0
              cases hxx : (f.x == x) with
              | true =>
                have hr0 : r = 0 := by have h := HR4.out; rw [hxx] at h; exact h
                have hxx2 : (f.x != x) = false := by rw [bne, hxx]; rfl
                subst hr0
                go_wp2
                go_ret
                exact ⟨rfl, HB14.out⟩
              | false =>
                have hr0 : r = 1 := by have h := HR4.out; rw [hxx] at h; exact h
                have hxx2 : (f.x != x) = true := by rw [bne, hxx]; rfl
                subst hr0
                go_wp2
                go_ret
                exact ⟨rfl, HB14.out⟩
set_option maxRecDepth 100000 in
theorem lifted (os : Os) (started : os.Started) (H : Type) (enc : TypeId × Value → H) :
    ReturnsInHanded {} Try.checked os 10 .any (Rows.diffOneSpec.pre6 enc Try.prog Try.f10 Rows.diffOneRow.domain false) (Rows.diffOneSpec.post enc Try.prog Try.f10 false true false false) := by
  refine returnsInHanded_of_change_sized (C := Try.checked) own started (by kernel_rfl) Try.func10
    (ChangeSpec.witness6 (enc := enc) (C := Try.checked) false ⟨#[], #[.slice none 0 0, .int .i64 0, .string ByteArray.empty, .int .i64 0], []⟩ 8 (by kernel_rfl) (by kernel_rfl) (by kernel_rfl) (by kernel_rfl)) ?_
  intro W base args ds gs before hval0 hW hcnd hsz0 _
  have hval : ∀ (j : Nat) t v, Try.f10.params[j]? = some t → args[j]? = some v → Value.okWide Try.prog W .any base t v := hval0
  have hW' := hW
  obtain ⟨p, q, hA0, hV, rfl, hfz, hnd⟩ := hW
  have hA : DataW.TrodAll enc Try.prog W 0 (fun _ => true) true Try.f10.params.toList args.toList ds p := hA0
  have hsz : (DataW.weightsEach Try.prog (Try.f10.params.toList ++ []) (ds ++ gs)).all (· ≤ reachBytes) = true := hsz0
  rw [Try.params10] at hA hval hsz
  have hAll := hA
  obtain ⟨v0, vs0, d0, ds0, p0, q0, hargs, rfl, rfl, h0, r0⟩ := trodAll_cons hA
  obtain ⟨v1, vs1, d1, ds1, p1, q1, rfl, rfl, rfl, h1, r1⟩ := trodAll_cons r0
  obtain ⟨v2, vs2, d2, ds2, p2, q2, rfl, rfl, rfl, h2, r2⟩ := trodAll_cons r1
  obtain ⟨v3, vs3, d3, ds3, p3, q3, rfl, rfl, rfl, h3, r3⟩ := trodAll_cons r2
  obtain ⟨rfl, rfl, rfl⟩ := trodAll_nil r3
  obtain rfl : args = #[v0, v1, v2, v3] := by cases args; simp_all
  obtain ⟨rfl, rfl⟩ := trodVars_none hV
  obtain ⟨a_A, a, a_cap, rfl, a_sl, a_ok, a_le, a_max, a_reach, a_nil⟩ := open_sl Try.underlying59 (c := 8) (by kernel_rfl) (by decide) opens_fr (hval 0 59 v0 rfl rfl) h0 (light_of hsz (j := 0) rfl rfl)
  obtain ⟨i, rfl, _, _, i_wf⟩ := open_int Try.underlying3 (hval 1 3 v1 rfl rfl) h1
  obtain ⟨t, rfl, _, _, _⟩ := ChangeMaps.open_string Try.underlying9 (hval 2 9 v2 rfl rfl) h2
  obtain ⟨x, rfl, _, _, x_wf⟩ := open_int Try.underlying3 (hval 3 3 v3 rfl rfl) h3
  refine (walk a i t x a_A a_cap W a_sl (Nat.le_trans a_le a_max) a_ok).mono fun e W' ⟨he, bel⟩ => ?_
  subst he
  exact ⟨_, rfl, _, _, _, [], _, [], hW', trodAll_mk1 (shut_bool Try.underlying4 _), keep_args laidOut bel (by kernel_rfl) hAll, rfl, bel.frame _, fun h => by cases h⟩

theorem over : Rows.diffOneRow.holds Try.pinned (OpenSpec.ofChange Rows.diffOneSpec) :=
  OpenClaim.holds_of_wide 10 Try.f10 rfl rfl rfl rfl rfl rfl rfl ⟨rfl, rfl, rfl, rfl, rfl⟩ rfl rfl rfl rfl rfl (by kernel_rfl) Try.func10 (by kernel_rfl)
    (of_decide_eq_true (by kernel_rfl)) (by unfold Func.isWrapper; first | (rw [if_pos (by decide +kernel)]; kernel_rfl) | (rw [if_neg (by decide +kernel)]; exact ⟨rfl, rfl⟩))
    (fun os started H enc _ => lifted os started H enc)

theorem proved : Rows.DiffOneSaid := over
#print axioms proved
end Go.Proofs.Ytiljpbncfofnhaa.lawOne
