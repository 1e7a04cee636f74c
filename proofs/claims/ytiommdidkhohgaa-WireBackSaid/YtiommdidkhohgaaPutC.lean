/- slices.Grow of nil, slices.Concat. -/
import Derived.Test.YtiommdidkhohgaaPutB
import Derived.Lib.AppendZerosOnto
import Derived.Outline
import Derived.BigQuiet
import Derived.Deep.QuietTactic
import Derived.Deep.RegionWith
import Derived.Deep.RegionHeld3
import Derived.Deep.DrawnRows
import Derived.Deep.LoopGhost
import Derived.Deep.DeepCutAuto
import Derived.Laws.EntriesVeiled
namespace Go.Proofs.Ytiommdidkhohgaa.Wire
open Go.RowKit Go.ChangeShapes Go.WideShapes Go.ChangeAt
set_option linter.unusedVariables false
set_option linter.unusedSimpArgs false
attribute [local go_sem ↓] Go.wp_at_zero Go.wp_at_succ
open Go.Shelf Go.Proofs.Ytiommdidkhohgaa.Word

theorem zero_size (n : Nat) : (Builtin.zeroCells (Value.int .u8 0).cells n).size = n := by
  unfold Builtin.zeroCells; simp [Value.cells]

set_option maxHeartbeats 2000000 in
set_option maxRecDepth 100000 in
theorem grow_any (n : Nat) (hn : n ≤ 140737488355328) (w : World) : Calls Try.prog 84 #[.slice none 0 0, .int .i64 (n : Int)] w (RetA w 5 1 encB []) := by
  obtain ⟨i0, hi, hz, hz1, hz2⟩ := info_parts byInfo
  have e1 : IntKind.i64.wrap ((n : Int) - 0) = (n : Int) := by rw [IntWalk.i64_in _ (by omega)]; omega
  have e0 : ¬ ((n : Int) < 0) := by omega
  by_cases h0 : n = 0
  · subst h0
    clear hn e1 e0
    go_enter Try.func84, Try.ntmps84
    go_wp2
    go_ret
    exact ⟨_, rfl, OwnA.nil_ _ _ _ _, (fun k hk => by cases hk), Below.refl _ _⟩
  · have e2 : (0 : Int) < (n : Int) := by omega
    have e3 : decide (0 < n) = true := decide_eq_true (by omega)
    have hrz : ∀ ty, (Builtin.append_ #[22, 3] ty #[.slice none 0 0, .int .i64 (n : Int)]).run Try.prog w =
        .ok (.slice (some ⟨w.heap.size, 0, none⟩) n (grownCap w n 0 5)) (w.drew.alloc (.cells ((#[] : Array Value) ++ Builtin.zeroCells (Value.int .u8 0).cells n ++ Builtin.zeroCells (Value.int .u8 0).cells (grownCap w n 0 5 - n)) 5)) := fun ty => by
      have h := Lib.run_append_grow_zeros (P := Try.prog) w 22 3 ty 5 i0 (.int .u8 0) .i64 .i64 Try.underlying22 Try.underlying3 hi hz none 0 0 [] (run_firstCells_none w.drew i0.size 0 0 0) n (by omega) (by omega) (by omega) (by omega) (by rw [hz2]; omega) (by rw [hz2]; exact growslice_fits (by omega) (by omega))
      simpa using h
    have hGn : n ≤ grownCap w n 0 5 := grownCap_ge w _ _ _
    have hG63 : grownCap w n 0 5 ≤ maxLen := grownCap_le_maxLen w n 0 5 (by unfold maxLen; omega)
    obtain ⟨G, hG⟩ : ∃ G, G = grownCap w n 0 5 := ⟨_, rfl⟩
    rw [← hG] at hrz hGn hG63
    obtain ⟨cs, hcs⟩ : ∃ cs, cs = (#[] : Array Value) ++ Builtin.zeroCells (Value.int .u8 0).cells n ++ Builtin.zeroCells (Value.int .u8 0).cells (G - n) := ⟨_, rfl⟩
    have hsz : cs.size = G := by rw [hcs]; simp [zero_size]; omega
    rw [← hcs] at hrz
    have HC : Hid (RetA w 5 1 encB ([] : List UInt8) (.returned (.slice (some ⟨w.heap.size, 0, none⟩) 0 G)) (w.drew.alloc (.cells cs 5))) := by
      refine ⟨_, rfl, .inr ⟨w.heap.size, 0, G, cs, rfl, ?_, Nat.zero_le _, hG63, by omega, by simp⟩, (fun k hk => ?_), (by repeat (first | exact Below.refl _ _ | assumption | refine Below.drew ?_ | refine bdrewN ?_ _ | refine Below.alloc ?_ (by simp; try omega) _ | refine Below.setCell ?_ (by simp; try omega) _))⟩
      · exact heap_alloc_new w.drew _
      · simp [Value.ownBlock] at hk; omega
    have HR := Lib.hid hrz
    clear hG hsz hcs hi hz hz1 hz2 hrz
    go_enter Try.func84, Try.ntmps84
    go_wp2_with (at_builtin; refine Lib.wpList_append_run _ rfl _ _ _ _ rfl _ _ rfl rfl _ _ (HR.out _) ?_)
    all_goals (go_ret; exact HC.out)

/-- bytes that are put together with others -/
structure Pt where
  A : Option Addr
  n : Nat
  cap : Nat
  bs : List UInt8
def Pt.cells (p : Pt) : List Value := [.slice p.A p.n p.cap]
theorem Pt.cells_len (p : Pt) : p.cells.length = 1 := rfl
theorem Pt.cells_one (p : Pt) : ∀ u ∈ p.cells, u.oneCell' = true := by simp [Pt.cells, Value.oneCell']
structure Pt.Rd (w : World) (p : Pt) : Prop where
  sl : BySl w w.heap.size p.A p.bs
  n : p.n = p.bs.length
theorem Pt.Rd.ext {w w' : World} {p : Pt} (h : p.Rd w) (hb : Below w.heap.size w w') : p.Rd w' := ⟨h.sl.ext hb, h.n⟩
theorem Pt.at_ {w : World} {B : Nat} {A : Option Addr} {ps : List Pt} (h : Sl w B 1 Pt.cells A ps) {j : Nat} {p : Pt} (hx : ps[j]? = some p) :
    ∃ b off, A = some ⟨b, off, none⟩ ∧ b < B ∧ w.cell? ⟨b, off + j, none⟩ = some (.slice p.A p.n p.cap) := by
  obtain ⟨b, off, hA, hb, hc⟩ := h.at_ hx
  have := hc 0 _ rfl
  rw [Nat.mul_one] at this
  exact ⟨b, off, hA, hb, this⟩
def allB (ps : List Pt) : List UInt8 := ps.flatMap Pt.bs
theorem allB_take {ps : List Pt} {j : Nat} {p : Pt} (h : ps[j]? = some p) : allB (ps.take (j + 1)) = allB (ps.take j) ++ p.bs := by
  unfold allB
  rw [List.take_add_one, h]
  simp
theorem allB_le (ps : List Pt) (j : Nat) : (allB (ps.take j)).length ≤ (allB ps).length := by
  unfold allB
  conv => rhs; rw [← List.take_append_drop j ps]
  rw [List.flatMap_append, List.length_append]
  omega

/-- how far Concat has come -/
structure CI (w wr : World) (A : Option Addr) (n c : Nat) (bs : List UInt8) : Prop where
  own : OwnA wr 5 1 encB (.slice A n c) bs
  fr : ∀ k, (Value.slice A n c).ownBlock = some k → w.heap.size ≤ k
  be : Below w.heap.size w wr
theorem CI.next {w wr w2 : World} {A A' : Option Addr} {n c n' c' : Nat} {bs ys : List UInt8} (h : CI w wr A n c bs) (hown : OwnA w2 5 1 encB (.slice A' n' c') ys)
    (hc : Chg (fun k => (Value.slice A n c).ownBlock = some k) wr w2) (hat : (Value.slice A' n' c').ownBlock = (Value.slice A n c).ownBlock ∨ (Value.slice A' n' c').ownBlock = some wr.heap.size) : CI w w2 A' n' c' ys := by
  refine ⟨hown, fun k hk => ?_, h.be.trans (hc.below h.be.size fun i hi hs => by have := h.fr _ hs; omega)⟩
  rcases hat with hat | hat
  · exact h.fr k (hat ▸ hk)
  · rw [hat] at hk; injection hk with hk; have := h.be.size; omega

set_option maxHeartbeats 4000000 in
set_option maxRecDepth 100000 in
theorem concat_any (ps : List Pt) (A : Option Addr) (n cap : Nat) (w : World) (hl : Sl w w.heap.size 1 Pt.cells A ps) (hr : ∀ p ∈ ps, p.Rd w) (hn : Hid (n = ps.length)) (hm : n ≤ 1000000) (ht : (allB ps).length ≤ 1000000000000) :
    Calls Try.prog 76 #[.slice A n cap] w (RetA w 5 1 encB (allB ps)) := by
  obtain ⟨i0, hi, hz, hz1, hz2⟩ := info_parts byInfo
  have HL := Lib.hid (And.intro hl hr)
  have HT := Lib.hid ht
  clear hl hr
  go_enter Try.func76, Try.ntmps76
  go_wp2
  go_loopg [3, 11] n (fun g vs vj wr => ∃ j q : Nat, vj = .int .i64 (j : Int) ∧ vs = .int .i64 (q : Int) ∧ n ≤ j + g ∧ j ≤ n ∧ Hid (q = (allB (ps.take j)).length) ∧ wr = w)
  case atStart => exact ⟨0, 0, rfl, rfl, by omega, by omega, rfl, rfl⟩
  case round =>
    obtain ⟨j, q, rfl, rfl, hg, hj, hq, rfl⟩ := hrel
    by_cases hlt : j < n
    · have hj1 : j < ps.length := by rw [← hn.out]; exact hlt
      have hx := List.getElem?_eq_getElem hj1
      obtain ⟨bb, off, rfl, hbb, c0⟩ := Pt.at_ HL.out.1 hx
      have hp := HL.out.2 _ (List.getElem_mem hj1)
      have hnx := allB_take hx
      have hle := allB_le ps (j + 1)
      generalize ps[j] = p at *
      have hq2 : Hid (q + p.n = (allB (ps.take (j + 1))).length) := by rw [Hid, hnx, List.length_append, hq.out, hp.n]
      have hqb : q + p.n ≤ 1000000000000 := by rw [hq2.out]; exact Nat.le_trans hle ht
      have b0 : (0 : Int) ≤ (j : Int) := Int.natCast_nonneg _
      have b2 : (j : Int) < (n : Int) := by omega
      have b3 : decide (j < n) = true := decide_eq_true hlt
      have e1 : IntKind.i64.wrap ((q : Int) + (p.n : Int)) = ((q + p.n : Nat) : Int) := by rw [IntWalk.i64_in _ (by omega)]; omega
      obtain ⟨q2, hqq⟩ : ∃ t, t = q + p.n := ⟨_, rfl⟩
      rw [← hqq] at e1 hq2
      have e2 : ¬ ((q2 : Int) < 0) := by omega
      clear hx hnx hle hp hqq hqb
      go_wp2
      go_roundg (gk - 1)
      case measure => omega
      case rel => exact ⟨j + 1, q2, by go_num, rfl, by omega, by omega, hq2, rfl⟩
    · have hjn : j = n := by omega
      have hqn : Hid (q ≤ 140737488355328) := by
        rw [Hid, hq.out]
        have := allB_le ps j
        have := HT.out
        omega
      have b2 : ¬ (j : Int) < (n : Int) := by omega
      have b3 : decide (j < n) = false := decide_eq_false hlt
      go_wp2_with (go_at_call 84; refine (grow_any q hqn.out _).mono ?_; rintro e w1 ⟨v1, rfl, hown1, hfr1, hb1⟩; obtain ⟨A1, n1, c1, rfl, hn1, hle1, hmx1, hnil1⟩ := hown1.form; have HC : Hid (CI wr w1 A1 n1 c1 []) := ⟨hown1, hfr1, hb1⟩; clear hown1 hfr1 hb1)
      go_loopg [6, 27] n (fun g vo vj wx => ∃ (j : Nat) (A2 : Option Addr) (n2 c2 : Nat), vj = .int .i64 (j : Int) ∧ vo = .slice A2 n2 c2 ∧ n ≤ j + g ∧ j ≤ n ∧ Hid (CI wr wx A2 n2 c2 (allB (ps.take j))))
      case atStart => exact ⟨0, A1, n1, c1, rfl, rfl, by omega, by omega, HC.out⟩
      case round =>
        obtain ⟨k, A2, n2, c2, rfl, rfl, hg2, hk, hCI⟩ := hrel
        by_cases hkl : k < n
        · have hj1 : k < ps.length := by rw [← hn.out]; exact hkl
          have hx := List.getElem?_eq_getElem hj1
          obtain ⟨bb, off, rfl, hbb, c0⟩ := Pt.at_ (HL.out.1.ext hCI.out.be) hx
          have hp := Lib.hid ((HL.out.2 _ (List.getElem_mem hj1)).ext hCI.out.be)
          have hnx := Lib.hid (allB_take hx)
          have hle := allB_le ps (k + 1)
          generalize ps[k] = p at *
          have h1 : Hid ((allB (ps.take k)).length + p.bs.length ≤ maxLen) := by
            have := congrArg List.length hnx.out
            rw [List.length_append] at this
            rw [Hid, ← this]; unfold maxLen; have := HT.out; omega
          have h2 : Hid (((allB (ps.take k)).length + p.bs.length) * 1 ≤ 140737488355328) := by
            have := congrArg List.length hnx.out
            rw [List.length_append] at this
            rw [Hid, ← this]; have := HT.out; omega
          have b0 : (0 : Int) ≤ (k : Int) := Int.natCast_nonneg _
          have b2 : (k : Int) < (n : Int) := by omega
          have b3 : decide (k < n) = true := decide_eq_true hkl
          clear hx hle
          go_wp2_with (at_builtin; refine wpList_append_a _ rfl _ _ _ rfl 5 i0 _ 1 1 Try.underlying22 hi hz hz1 hz2 rfl (by decide) encB_len encB_one _ (allB (ps.take k)) (by rfl) hCI.out.own _ p.A p.bs p.n p.cap (by rfl) hp.out.n hp.out.sl h1.out h2.out ?_; intro v' w' hown' hchg hat; obtain ⟨A3, n3, c3, rfl, hn3, hle3, hmx3, hnil3⟩ := hown'.form; have HA := Lib.hid (And.intro hown' (And.intro hchg hat)); clear hown' hchg hat)
          go_roundg (gk - 1)
          case measure => omega
          case rel => exact ⟨k + 1, A3, n3, c3, by go_num, rfl, by omega, by omega, by rw [hnx.out]; exact hCI.out.next HA.out.1 HA.out.2.1 HA.out.2.2⟩
        · have b2 : ¬ (k : Int) < (n : Int) := by omega
          have b3 : decide (k < n) = false := decide_eq_false hkl
          have hall : Hid (ps.take k = ps) := List.take_of_length_le (by rw [← hn.out]; omega)
          go_wp2
          go_ret
          have h := hCI.out
          rw [hall.out] at h
          exact ⟨_, rfl, h.own, h.fr, h.be⟩
end Go.Proofs.Ytiommdidkhohgaa.Wire
