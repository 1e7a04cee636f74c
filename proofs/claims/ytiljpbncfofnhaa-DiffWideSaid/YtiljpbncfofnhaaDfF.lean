/- diff: can, may; chains: a counter of chains. -/
import Derived.Test.YtiljpbncfofnhaaDfD
import Derived.Lib.MinMax
import Derived.Lib.MinMaxS
import Derived.Outline
import Derived.BigQuiet
import Derived.Deep.QuietTactic
import Derived.Deep.RegionWith
import Derived.Deep.RegionHeld3
import Derived.Deep.DrawnRows
import Derived.Deep.LoopGhost
import Derived.Deep.DeepCutAuto
import Derived.Laws.EntriesVeiled
import Derived.BigRegion
import Derived.Deep.RegionLaw
namespace Go.Proofs.Ytiljpbncfofnhaa.Dif
open Go.RowKit Go.ChangeShapes Go.WideShapes Go.ChangeAt
set_option linter.unusedVariables false
set_option linter.unusedSimpArgs false
attribute [local go_sem ↓] Go.wp_at_zero Go.wp_at_succ
open FragA FragB MayA Tree EdC EdB

theorem frEqW (a b c d e i j a' b' c' d' e' i' j' : Int) (s s' : ByteArray) (w : World) : (Op.equalIn 10000 67 (.agg #[.int .i64 a, .int .i64 b, .int .i64 c, .int .i64 d, .int .i64 e, .int .i64 i, .int .i64 j, .string s])
    (.agg #[.int .i64 a', .int .i64 b', .int .i64 c', .int .i64 d', .int .i64 e', .int .i64 i', .int .i64 j', .string s'])).run Try.prog w = .ok (Fr.beq ⟨a, b, c, d, e, i, j, s⟩ ⟨a', b', c', d', e', i', j', s'⟩) w := frEq' ⟨a, b, c, d, e, i, j, s⟩ ⟨a', b', c', d', e', i', j', s'⟩ w
attribute [local go_sem ↓] frEqW
attribute [local go_sem] frGuard
attribute [local go_sem high] Go.Lib.run_min_strs

def samePlace (f g : Fr) : Bool := f.depth == g.depth && (f.x == g.x && (f.y == g.y && (f.w == g.w && f.h == g.h)))
theorem canB_eq (f g : Fr) : canB f g = ((f.node == g.node && f.part == g.part) && (f.text.toList == g.text.toList || samePlace f g)) := rfl
theorem canSame (f g : Fr) (s t : ByteArray) (h : s = t) : Fr.beq ⟨f.node, f.part, f.depth, f.x, f.y, f.w, f.h, s⟩ ⟨g.node, g.part, g.depth, g.x, g.y, g.w, g.h, t⟩ = ((f.node == g.node && f.part == g.part) && samePlace f g) := by
  subst h
  simp only [Fr.beq, samePlace, beq_self_eq_true, Bool.and_true, Bool.and_assoc]
theorem minS_self (s t : ByteArray) : Go.Lib.minS (Go.Lib.minS s t) t = Go.Lib.minS s t ∧ Go.Lib.minS s (Go.Lib.minS s t) = Go.Lib.minS s t ∧ Go.Lib.minS s s = s := by
  refine ⟨?_, ?_, ?_⟩ <;> (simp only [Go.Lib.minS]; repeat' split) <;> simp_all
set_option maxRecDepth 100000 in
set_option maxHeartbeats 2000000 in
theorem can_any (f g : Fr) (w : World) : Calls Try.prog 104 #[f.agg, g.agg] w fun e w' => e = .returned (.bool ((f.node == g.node && f.part == g.part) && samePlace f g)) ∧ Below w.heap.size w w' := by
  unfold Fr.agg
  go_enter Try.func104, Try.ntmps104
  go_wp2_with fail
  go_region
  all_goals (
    go_wp2
    go_ret
    refine ⟨ret_bool (canSame f g _ _ (by simp [minS_self])), (by repeat (first | exact Below.refl _ _ | assumption | refine Below.drew ?_ | refine bdrewN ?_ _ | refine Below.alloc ?_ (by simp; try omega) _ | refine Below.setCell ?_ (by simp; try omega) _))⟩)
set_option maxRecDepth 100000 in
set_option maxHeartbeats 2000000 in
theorem may_any (f g : Fr) (w : World) : Calls Try.prog 85 #[f.agg, g.agg] w fun e w' => e = .returned (.bool (canB f g)) ∧ Below w.heap.size w w' := by
  have HC := fun b (hb : ((f.node == g.node && f.part == g.part) && samePlace f g) = b) => Lib.hid (fun w => hb ▸ can_any f g w)
  unfold Fr.agg at *
  obtain ⟨c, hc⟩ : ∃ c, canB f g = c := ⟨_, rfl⟩
  rw [hc]
  rw [canB_eq] at hc
  cases h1 : (f.node == g.node) with
  | false =>
    rw [h1] at hc
    simp only [Bool.false_and] at hc
    subst hc
    clear HC
    go_enter Try.func85, Try.ntmps85
    go_wp2
    go_ret
    exact ⟨rfl, (by repeat (first | exact Below.refl _ _ | assumption | refine Below.drew ?_ | refine bdrewN ?_ _ | refine Below.alloc ?_ (by simp; try omega) _ | refine Below.setCell ?_ (by simp; try omega) _))⟩
  | true =>
    cases h2 : (f.part == g.part) with
    | false =>
      rw [h1, h2] at hc
      simp only [Bool.false_and, Bool.and_false] at hc
      subst hc
      clear HC
      go_enter Try.func85, Try.ntmps85
      go_wp2
      go_ret
      exact ⟨rfl, (by repeat (first | exact Below.refl _ _ | assumption | refine Below.drew ?_ | refine bdrewN ?_ _ | refine Below.alloc ?_ (by simp; try omega) _ | refine Below.setCell ?_ (by simp; try omega) _))⟩
    | true =>
      cases h3 : (f.text.toList == g.text.toList) with
      | true =>
        rw [h1, h2, h3] at hc
        simp only [Bool.true_and, Bool.true_or] at hc
        subst hc
        clear HC
        go_enter Try.func85, Try.ntmps85
        go_wp2
        go_ret
        exact ⟨rfl, (by repeat (first | exact Below.refl _ _ | assumption | refine Below.drew ?_ | refine bdrewN ?_ _ | refine Below.alloc ?_ (by simp; try omega) _ | refine Below.setCell ?_ (by simp; try omega) _))⟩
      | false =>
        rw [h1, h2, h3] at hc
        simp only [Bool.true_and, Bool.false_or] at hc
        have HC := HC c (by rw [h1, h2]; exact hc)
        clear hc
        go_enter Try.func85, Try.ntmps85
        go_wp2_with (go_at_call 104; refine (HC.out _).mono ?_; rintro e w' ⟨rfl, hb1⟩)
        go_ret
        exact ⟨rfl, bto (((Below.refl _ _).alloc (Nat.le_refl _) _).alloc (by simp) _) hb1 (by simp; omega)⟩

/-! ### chains -/
def encK (k : Nat) : List Value := [.int .i64 (k : Int)]
theorem encK_len (k : Nat) : (encK k).length = 1 := rfl
theorem encK_one (k : Nat) : ∀ u ∈ encK k, u.oneCell' = true := by simp [encK, Value.oneCell']
abbrev KSl (w : World) (B : Nat) (A : Option Addr) (l : List Nat) : Prop := Sl w B 1 encK A l
theorem KSl.at_ {w : World} {B : Nat} {A : Option Addr} {l : List Nat} (h : KSl w B A l) {k x : Nat} (hx : l[k]? = some x) :
    ∃ g off, A = some ⟨g, off, none⟩ ∧ g < B ∧ w.cell? ⟨g, off + k, none⟩ = some (.int .i64 (x : Int)) := by
  obtain ⟨g, off, e, hb, hc⟩ := Sl.at_ h hx
  exact ⟨g, off, e, hb, by simpa using hc 0 _ rfl⟩
theorem made_flat {α : Type} {enc : α → List Value} {c : Nat} (he : ∀ x, (enc x).length = c) (hc : 0 < c) (x : α) (z : Value) (hz : z.cells.toList = enc x) (n : Nat) : (madeCells z.cells (n * c)).toList = (List.replicate n x).flatMap enc := by
  have hzs : z.cells.size = c := by rw [← he x, ← hz]; simp
  apply List.ext_getElem?
  intro j
  by_cases hj : j < n * c
  · have hk : j / c < n := (Nat.div_lt_iff_lt_mul hc).2 hj
    have hm : j % c < c := Nat.mod_lt _ hc
    have e : j = j / c * c + j % c := by rw [Nat.mul_comm]; exact (Nat.div_add_mod j c).symm
    have h1 := flat_at he (List.replicate n x) (j / c) (j % c) x (by rw [List.getElem?_replicate, if_pos hk]) hm
    rw [← e] at h1
    rw [h1, ← hz]
    simp [madeCells, hj, hzs, Nat.mod_lt _ hc]
  · rw [List.getElem?_eq_none (by simp [size_madeCells]; omega), List.getElem?_eq_none (by rw [flat_length he]; simp; omega)]
theorem made_k {w6 : World} {base g t : Nat} (h : w6.ownsRow base 3 1 (.slice (some ⟨g, 0, none⟩) t t) t (madeCells (Value.int .i64 0).cells (t * 1)).toList) : OwnA w6 3 1 encK (.slice (some ⟨g, 0, none⟩) t t) (List.replicate t 0) := by
  have e := made_flat encK_len (by decide) (0 : Nat) (.int .i64 0) (by rfl) t
  have h2 : Own w6 base 3 1 encK (.slice (some ⟨g, 0, none⟩) t t) (List.replicate t 0) := by
    unfold Own
    rw [List.length_replicate, ← e]
    exact h
  exact OwnA.of_own h2
/-- the counter's memory: n at b1, the tree's slice at b2, the tree in block g -/
structure ChIn (w : World) (b1 b2 g n : Nat) (best : List Nat) : Prop where
  cnt : Blk w b1 3 #[.int .i64 (n : Int)]
  sl : Blk w b2 122 #[.slice (some ⟨g, 0, none⟩) (n + 1) (n + 1)]
  row : OwnA w 3 1 encK (.slice (some ⟨g, 0, none⟩) (n + 1) (n + 1)) best
  len : best.length = n + 1
  ne : g ≠ b1
theorem ChIn.ext {w w' : World} {b1 b2 g n : Nat} {best : List Nat} (h : ChIn w b1 b2 g n best) (hb : Below w.heap.size w w') : ChIn w' b1 b2 g n best := ⟨h.cnt.ext hb, h.sl.ext hb, h.row.ext hb, h.len, h.ne⟩
theorem ChIn.chg {w w' : World} {b1 b2 g n : Nat} {best : List Nat} {S : Nat → Prop} (h : ChIn w b1 b2 g n best) (hc : Chg S w w') (h1 : ¬ S b1) (h2 : ¬ S b2) (h3 : ¬ S g) : ChIn w' b1 b2 g n best := ⟨h.cnt.chg hc h1, h.sl.chg hc h2, h.row.chg hc (fun b hb => by simp [Value.ownBlock] at hb; subst hb; exact h3), h.len, h.ne⟩
theorem ChIn.ne2 {w : World} {b1 b2 g n : Nat} {best : List Nat} (h : ChIn w b1 b2 g n best) : g ≠ b2 := fun e => h.row.apart h.sl (by decide) (by rw [e]; rfl)
theorem ChIn.store {w : World} {b1 b2 g n : Nat} {best : List Nat} (h : ChIn w b1 b2 g n best) {k : Nat} (hk : k < best.length) (v : Nat) : ChIn (w.setCell ⟨g, k, none⟩ (.int .i64 (v : Int))) b1 b2 g n (best.set k v) := by
  have hs := h.row.store encK_len (k := k) (j := 0) (x' := v) (u := .int .i64 (v : Int)) (List.getElem?_eq_getElem hk) (by omega) rfl
  simp only [Nat.zero_add, Nat.mul_one, Nat.add_zero] at hs
  exact ⟨h.cnt.far (p := ⟨g, k, none⟩) (fun e => h.ne e.symm) _, h.sl.far (p := ⟨g, k, none⟩) (fun e => h.ne2 e.symm) _, hs, by rw [List.length_set]; exact h.len, h.ne⟩
theorem intInfo : (Try.prog.info? 3).map (fun i => (i.zero, i.size, i.bytes)) = some (some (.int .i64 0), 1, 8) := by kernel_rfl
theorem at_zero {l : List Nat} {k : Nat} (h : k < l.length) : l[k]? = some (l.getD k 0) := by rw [List.getD_eq_getElem?_getD, List.getElem?_eq_getElem h]; rfl
theorem getD_bd {l : List Nat} {b : Nat} (h : ∀ x ∈ l, x ≤ b) (k : Nat) : l.getD k 0 ≤ b := by
  rw [List.getD_eq_getElem?_getD]
  cases hx : l[k]? with
  | none => simp
  | some x => exact h x (List.mem_of_getElem? hx)
theorem ask_bd {best : List Nat} {b : Nat} (h : ∀ x ∈ best, x ≤ b) : ∀ (k long : Nat), long ≤ b → ask best k long ≤ b := by
  intro k
  induction k using Nat.strongRecOn with
  | _ k ih =>
    intro long hl
    by_cases h0 : k = 0
    · subst h0; rw [ask_zero]; exact hl
    · rw [ask_step best long (by omega)]
      have := lb_pos k (by omega)
      exact ih _ (by omega) _ (by have := getD_bd h k; omega)
theorem put_bd {n b : Nat} : ∀ (m k v : Nat) (best : List Nat), n + 1 - k ≤ m → (∀ x ∈ best, x ≤ b) → v ≤ b → ∀ x ∈ put n best k v, x ≤ b := by
  intro m
  induction m with
  | zero => intro k v best h hb hv; rw [put_end best v (by omega)]; exact hb
  | succ m ih =>
    intro k v best h hb hv
    by_cases hc : k = 0 ∨ n < k
    · unfold put; rw [dif_pos hc]; exact hb
    · rw [put_step best v (by omega) (by omega)]
      refine ih _ _ _ (by have := lb_pos k (by omega); omega) (fun x hx => ?_) hv
      rcases List.mem_or_eq_of_mem_set hx with h | h
      · exact hb x h
      · have := getD_bd hb k; omega

set_option maxRecDepth 100000 in
set_option maxHeartbeats 2000000 in
theorem count_any {w : World} {b1 b2 g n : Nat} {best : List Nat} (h : ChIn w b1 b2 g n best) (i : Nat) (hi : i < n) (hn : n ≤ 2048) (hbd : ∀ x ∈ best, x ≤ 100000) :
    Calls Try.prog 103 #[.int .i64 (i : Int), .pointer (some ⟨b1, 0, none⟩), .pointer (some ⟨b2, 0, none⟩)] w fun e w' =>
      e = .returned (.int .i64 ((ask best (n - 1 - i) 0 + 1 : Nat) : Int)) ∧ ChIn w' b1 b2 g n (put n best (n - i) (ask best (n - 1 - i) 0 + 1)) ∧ Chg (fun k => k = g) w w' := by
  have hlen := h.len
  have c1 : w.cell? ⟨b1, 0, none⟩ = some (.int .i64 (n : Int)) := h.cnt.cell 0
  have c2 : w.cell? ⟨b2, 0, none⟩ = some (.slice (some ⟨g, 0, none⟩) (n + 1) (n + 1)) := h.sl.cell 0
  have w1 : IntKind.i64.wrap ((n : Int) - 1) = (n : Int) - 1 := IntWalk.i64_in _ (by omega)
  have w2 : IntKind.i64.wrap ((n : Int) - 1 - (i : Int)) = ((n - 1 - i : Nat) : Int) := by rw [IntWalk.i64_in _ (by omega)]; omega
  have w3 : IntKind.i64.wrap ((n : Int) - (i : Int)) = ((n - i : Nat) : Int) := by rw [IntWalk.i64_in _ (by omega)]; omega
  have hL : ask best (n - 1 - i) 0 ≤ 100000 := ask_bd hbd _ _ (by omega)
  have HB := Lib.hid hbd
  clear hbd
  obtain ⟨k0, hk0⟩ : ∃ k0, n - 1 - i = k0 := ⟨_, rfl⟩
  obtain ⟨p0, hp0⟩ : ∃ p0, Hid (n - i = p0) := ⟨_, rfl⟩
  rw [hk0] at w2 hL ⊢
  rw [hp0.out] at w3 ⊢
  obtain ⟨L, hLe⟩ : ∃ L, ask best k0 0 = L := ⟨_, rfl⟩
  rw [hLe] at hL ⊢
  have HL := Lib.hid hLe
  have Hk0 := Lib.hid (show k0 ≤ n from by omega)
  have Hp0 := Lib.hid (show 0 < p0 from by have := hp0.out; omega)
  clear hLe hk0
  go_enter Try.func103, Try.ntmps103
  go_wp2
  go_loopg [5, 6] k0 (fun gh v5 v6 wr => ∃ k long : Nat, k ≤ gh ∧ k ≤ n ∧ long ≤ 100000 ∧ v5 = .int .i64 (long : Int) ∧ v6 = .int .i64 (k : Int) ∧ Hid (ask best k long = L) ∧ w = wr)
  case atStart => exact ⟨k0, 0, by omega, Hk0.out, by omega, rfl, rfl, HL.out, rfl⟩
  case round =>
    obtain ⟨k, long, hg, hkn, hlo, rfl, rfl, hask, rfl⟩ := hrel
    by_cases hk : 0 < k
    · have hx := at_zero (l := best) (k := k) (by omega)
      have hxb := getD_bd HB.out k
      obtain ⟨x, hxe⟩ : ∃ x, best.getD k 0 = x := ⟨_, rfl⟩
      have HA : Hid (ask best (k - lb k) (max long x) = L) := by rw [Hid, ← hask.out, ask_step best long hk, hxe]
      rw [hxe] at hx hxb
      obtain ⟨g', off, hA, _, cx⟩ := KSl.at_ (h.row.sl encK_len) hx
      injection hA with hA
      injection hA with hA1 hA2 _
      subst hA1
      subst hA2
      rw [Nat.zero_add] at cx
      obtain ⟨hb1, hb2⟩ := lb_bits hk (by omega)
      have hlb := lb_pos k hk
      obtain ⟨m, hm⟩ : ∃ m, k - lb k = m := ⟨_, rfl⟩
      rw [hm] at hb2 HA
      have hmk : m < k := by omega
      have w4 : IntKind.i64.wrap ((k : Int) - 1) = (k : Int) - 1 := IntWalk.i64_in _ (by omega)
      have w5 : max (long : Int) (x : Int) = ((max long x : Nat) : Int) := by omega
      have b3 : (0 : Int) ≤ (k : Int) := Int.natCast_nonneg _
      have b4 : (k : Int) < ((n + 1 : Nat) : Int) := by omega
      have b5 : max long x ≤ 100000 := by omega
      clear hm hb1 hlb hx hxe hlen
      generalize max long x = y at *
      go_wp2
      go_roundg (gk - 1)
      case measure => omega
      case rel => exact ⟨m, y, by omega, by omega, b5, rfl, rfl, HA, rfl⟩
    · have HE : Hid (long = L) := by rw [Hid, ← hask.out, show k = 0 from by omega, ask_zero]
      have w6 : IntKind.i64.wrap ((long : Int) + 1) = ((L + 1 : Nat) : Int) := by rw [IntWalk.i64_in _ (by omega), HE.out]; omega
      clear hask
      have HC := Lib.hid h
      clear h
      go_wp2
      go_loopg [7] (n + 1) (fun gh v7 wr => ∃ (k : Nat) (cur : List Nat), n + 1 ≤ k + gh ∧ 0 < k ∧ v7 = .int .i64 (k : Int) ∧ Hid (put n cur k (L + 1) = put n best p0 (L + 1)) ∧ Hid (ChIn wr b1 b2 g n cur ∧ Chg (fun k => k = g) w wr ∧ ∀ x ∈ cur, x ≤ 100001) ∧ k ≤ 5000)
      case atStart => exact ⟨p0, best, by omega, Hp0.out, rfl, rfl, ⟨HC.out, Chg.refl _ _, fun x hx => by have := HB.out x hx; omega⟩, by have := hp0.out; omega⟩
      case round =>
        obtain ⟨k, cur, hg, hk0, rfl, hput, HW, hk5⟩ := hrel
        have d1 : wr.cell? ⟨b1, 0, none⟩ = some (.int .i64 (n : Int)) := HW.out.1.cnt.cell 0
        have d2 : wr.cell? ⟨b2, 0, none⟩ = some (.slice (some ⟨g, 0, none⟩) (n + 1) (n + 1)) := HW.out.1.sl.cell 0
        by_cases hkn : k ≤ n
        · have hkl : k < cur.length := by rw [HW.out.1.len]; omega
          have hx := at_zero (l := cur) (k := k) hkl
          have hxb := getD_bd HW.out.2.2 k
          obtain ⟨x, hxe⟩ : ∃ x, cur.getD k 0 = x := ⟨_, rfl⟩
          have HA : Hid (put n (cur.set k (max x (L + 1))) (k + lb k) (L + 1) = put n best p0 (L + 1)) := by rw [Hid, ← hput.out, put_step cur (L + 1) hk0 hkn, hxe]
          rw [hxe] at hx hxb
          obtain ⟨g', off, hA, _, cx⟩ := KSl.at_ (HW.out.1.row.sl encK_len) hx
          injection hA with hA
          injection hA with hA1 hA2 _
          subst hA1
          subst hA2
          rw [Nat.zero_add] at cx
          have fx : wr.frozen? ⟨g, k, none⟩ = false := by
            obtain ⟨_, _, cur', _, hh, _⟩ := HW.out.1.row.row (g := g) rfl
            exact frozen_of_row wr g k cur' _ hh
          obtain ⟨hb1, hb2⟩ := lb_bits hk0 (by omega)
          have hlb := lb_pos k hk0
          obtain ⟨m, hm⟩ : ∃ m, lb k = m := ⟨_, rfl⟩
          rw [hm] at hb1 HA hlb
          have w4 : IntKind.i64.wrap (-(k : Int)) = -(k : Int) := IntWalk.i64_in _ (by omega)
          have w7 : IntKind.i64.wrap ((k : Int) + (m : Int)) = ((k + m : Nat) : Int) := by rw [IntWalk.i64_in _ (by omega)]; omega
          have w5 : max (x : Int) ((L : Int) + 1) = ((max x (L + 1) : Nat) : Int) := by omega
          have b3 : (0 : Int) ≤ (k : Int) := Int.natCast_nonneg _
          have b4 : (k : Int) < ((n + 1 : Nat) : Int) := by omega
          have b5 : max x (L + 1) ≤ 100001 := by omega
          have hne : g ≠ b2 := HW.out.1.ne2
          have hne1 : g ≠ b1 := HW.out.1.ne
          have hgl : g < wr.heap.size := HW.out.1.row.lt rfl
          clear hm hb2 hx hxe hput
          obtain ⟨y, hy⟩ : ∃ y, max x (L + 1) = y := ⟨_, rfl⟩
          rw [hy] at w5 b5 HA
          have HN : Hid (ChIn (wr.setCell ⟨g, k, none⟩ (.int .i64 (y : Int))) b1 b2 g n (cur.set k y) ∧ Chg (fun k => k = g) w (wr.setCell ⟨g, k, none⟩ (.int .i64 (y : Int))) ∧ ∀ x ∈ cur.set k y, x ≤ 100001) := by
            refine ⟨HW.out.1.store hkl y, HW.out.2.1.setCell (p := ⟨g, k, none⟩) (fun _ => rfl) _, fun x hx => ?_⟩
            rcases List.mem_or_eq_of_mem_set hx with h | h
            · exact HW.out.2.2 x h
            · omega
          have HND : Hid (ChIn (wr.setCell ⟨g, k, none⟩ (.int .i64 (y : Int))).drew b1 b2 g n (cur.set k y) ∧ Chg (fun k => k = g) w (wr.setCell ⟨g, k, none⟩ (.int .i64 (y : Int))).drew ∧ ∀ x ∈ cur.set k y, x ≤ 100001) := ⟨⟨HN.out.1.cnt.drew, HN.out.1.sl.drew, HN.out.1.row.drew, HN.out.1.len, HN.out.1.ne⟩, HN.out.2.1.drew, HN.out.2.2⟩
          clear hy HW
          go_wp2_with fail
          go_region
          all_goals (
            go_wp2
            go_roundg (gk - 1)
            case measure => omega
            case rel => exact ⟨k + m, cur.set k y, by omega, by omega, rfl, HA, HND, by omega⟩)
        · have HF : Hid (cur = put n best p0 (L + 1)) := by rw [Hid, ← hput.out, put_end cur (L + 1) (by omega)]
          go_wp2
          go_ret
          refine ⟨rfl, ?_, HW.out.2.1⟩
          rw [← HF.out]
          exact HW.out.1

set_option maxRecDepth 100000 in
theorem chains_any (n : Nat) (hn : n ≤ 2048) (w : World) :
    Calls Try.prog 84 #[.int .i64 (n : Int)] w fun e w' => ∃ b1 b2 g, e = .returned (.func (Fn.func 103) #[] #[.pointer (some ⟨b1, 0, none⟩), .pointer (some ⟨b2, 0, none⟩)]) ∧ ChIn w' b1 b2 g n (List.replicate (n + 1) 0) ∧
      w.heap.size ≤ b1 ∧ w.heap.size ≤ b2 ∧ w.heap.size ≤ g ∧ Below w.heap.size w w' := by
  obtain ⟨i0, hi, hz0, hz1, hz2⟩ := info_parts intInfo
  have w1 : IntKind.i64.wrap ((n : Int) + 1) = ((n + 1 : Nat) : Int) := by rw [IntWalk.i64_in _ (by omega)]; omega
  have HB := Lib.hid (Blk.new w 3 #[.int .i64 (n : Int)])
  have hb0 := Lib.hid (EdF.below_a w (.cells #[.int .i64 (n : Int)] 3))
  go_enter Try.func84, Try.ntmps84
  go_wp2_with (at_make; refine wpList_make_full _ rfl _ _ 122 rfl w.heap.size 3 i0 _ 1 Try.underlying122 hi hz0 hz1 _ _ _ _ (n + 1) rfl rfl (by rfl) (by rfl) (by rw [hz2]; omega) (by unfold maxLen; omega) (by simp) ?_; intro w6 hmk hgr; have hb6 := Lib.hid (Below.grown (Below.refl (w.alloc (.cells #[.int .i64 (n : Int)] 3)).heap.size (w.alloc (.cells #[.int .i64 (n : Int)] 3))) hgr (Nat.le_refl _) (by simp)); have HM := Lib.hid (made_k hmk); clear hmk hgr)
  refine bodyPost_ret (by simp [results, Try.results84, go_sem]; rfl) rfl ?_
  have hs : (w.alloc (.cells #[.int .i64 (n : Int)] 3)).heap.size = w.heap.size + 1 := by simp
  have hs6 := hb6.out.size
  refine ⟨w.heap.size, w6.heap.size, w.heap.size + 1, rfl, ⟨?_, ?_, ?_, by simp, by omega⟩, by omega, by omega, by omega, ?_⟩
  · exact ((HB.out.ext hb6.out)).ext (EdF.below_a _ _)
  · have h := Blk.new w6 122 #[.slice (some ⟨w.heap.size + 1, 0, none⟩) (n + 1) (n + 1)]
    simpa using h
  · have h := HM.out.ext (EdF.below_a w6 (.cells #[.slice (some ⟨w.heap.size + 1, 0, none⟩) (n + 1) (n + 1)] 122))
    simpa using h
  · exact ext_under (ext_under hb0.out (Nat.le_refl _) hb6.out) (Nat.le_refl _) (EdF.below_a _ _)
end Go.Proofs.Ytiljpbncfofnhaa.Dif
