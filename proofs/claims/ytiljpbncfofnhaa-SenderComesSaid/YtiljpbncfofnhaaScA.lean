/- SenderComes, plainly: what a round of ticks, of losses, of acknowledgements makes of a sender and of a joiner; that it ends. -/
import Derived.Test.YtiljpbncfofnhaaSendK
import Derived.Test.YtiljpbncfofnhaaJoinB
import Derived.Outline
import Derived.BigQuiet
import Derived.Deep.QuietTactic
import Derived.Deep.RegionWith
import Derived.Deep.RegionHeld3
import Derived.Deep.DrawnRows
import Derived.Deep.LoopGhost
import Derived.Deep.DeepCutAuto
import Derived.Laws.EntriesVeiled
namespace Go.Proofs.Ytiljpbncfofnhaa.Comes
open Go.RowKit Go.ChangeShapes Go.WideShapes Go.ChangeAt
set_option linter.unusedVariables false
set_option linter.unusedSimpArgs false
attribute [local go_sem ↓] Go.wp_at_zero Go.wp_at_succ
open Send JoinB

def lostB (gone : List Bool) (n : Nat) : Bool := gone.getD n false
theorem lostB_late {gone : List Bool} {n : Nat} (h : gone.length ≤ n) : lostB gone n = false := by
  unfold lostB
  rw [List.getD_eq_getElem?_getD, List.getElem?_eq_none h]; rfl

/-- chunks of 48 bytes -/
def cks (b : List UInt8) : List (List UInt8) := (List.range ((b.length + 47) / 48)).map fun i => (b.drop (48 * i)).take 48
theorem cks_len (b : List UInt8) : (cks b).length = (b.length + 47) / 48 := by simp [cks]
theorem cks_get {b : List UInt8} {i : Nat} {x : List UInt8} (h : (cks b)[i]? = some x) : i < (b.length + 47) / 48 ∧ x = (b.drop (48 * i)).take 48 := by
  have hi : i < (cks b).length := (List.getElem?_eq_some_iff.1 h).1
  rw [cks_len] at hi
  refine ⟨hi, ?_⟩
  have : (cks b)[i]? = some ((b.drop (48 * i)).take 48) := by
    unfold cks
    rw [List.getElem?_map, List.getElem?_range hi]; rfl
  rw [h] at this
  injection this
theorem cks_take (b : List UInt8) : ∀ k, ((List.range k).map fun i => (b.drop (48 * i)).take 48).flatten = b.take (48 * k)
  | 0 => by simp
  | k + 1 => by
    rw [List.range_succ, List.map_append, List.flatten_append, cks_take b k]
    simp only [List.map_cons, List.map_nil, List.flatten_cons, List.flatten_nil, List.append_nil]
    rw [show 48 * (k + 1) = 48 * k + 48 from by omega, List.take_add]
theorem cks_all (b : List UInt8) : (cks b).flatten = b := by
  unfold cks
  rw [cks_take]
  exact List.take_of_length_le (by omega)
theorem cks_right {b : List UInt8} (h0 : b ≠ []) : lWrong (cks b) = false := by
  have hl : 0 < b.length := List.length_pos_iff.2 h0
  unfold lWrong
  rw [Bool.or_eq_false_iff]
  constructor
  · rw [List.isEmpty_eq_false_iff]
    intro h
    have := cks_len b
    rw [h] at this
    simp at this
    omega
  · rw [List.any_eq_false]
    intro x hx
    obtain ⟨i, hi⟩ := List.getElem?_of_mem hx
    obtain ⟨h1, rfl⟩ := cks_get hi
    simp only [wrongB, List.length_take, List.length_drop]
    simp
    omega

/-- the pieces that wait behind a load of those bytes -/
def pcs (b : List UInt8) : List (Bool × List UInt8) := flg (cks b).length 0 (cks b)
theorem flg_get : ∀ (l : List (List UInt8)) (n i j : Nat) (x : Bool × List UInt8), (flg n i l)[j]? = some x → ∃ y, l[j]? = some y ∧ x = (decide (i + j + 1 = n), y)
  | [], n, i, j, x, h => by simp [flg] at h
  | b :: l, n, i, 0, x, h => by
    simp [flg] at h
    exact ⟨b, rfl, by rw [← h]⟩
  | b :: l, n, i, j + 1, x, h => by
    simp [flg] at h
    obtain ⟨y, h1, h2⟩ := flg_get l n (i + 1) j x h
    exact ⟨y, by simpa using h1, by rw [h2]; congr 2; rw [show i + 1 + j + 1 = i + (j + 1) + 1 from by omega]⟩
theorem flg_bytes : ∀ (l : List (List UInt8)) (n i : Nat), (flg n i l).map (·.2) = l
  | [], n, i => rfl
  | b :: l, n, i => by simp [flg, flg_bytes l]
theorem pcs_len (b : List UInt8) : (pcs b).length = (b.length + 47) / 48 := by unfold pcs; rw [flg_len, cks_len]
theorem pcs_all (b : List UInt8) : ((pcs b).map (·.2)).flatten = b := by unfold pcs; rw [flg_bytes, cks_all]
theorem pcs_get {b : List UInt8} {i : Nat} {x : Bool × List UInt8} (h : (pcs b)[i]? = some x) : x.1 = decide (i + 1 = (pcs b).length) ∧ x.2 = (b.drop (48 * i)).take 48 ∧ i < (pcs b).length := by
  have hi := (List.getElem?_eq_some_iff.1 h).1
  unfold pcs at h
  obtain ⟨y, h1, rfl⟩ := flg_get _ _ _ _ _ h
  have h2 := (cks_get h1).2
  refine ⟨?_, h2, hi⟩
  unfold pcs
  rw [flg_len]
  simp
theorem pcs_size {b : List UInt8} {i : Nat} {x : Bool × List UInt8} (h : (pcs b)[i]? = some x) : 1 ≤ x.2.length ∧ x.2.length ≤ 48 ∧ (x.2.length < 48 → x.1 = true) := by
  obtain ⟨h1, h2, h3⟩ := pcs_get h
  rw [pcs_len] at h1 h3
  rw [h1, h2, List.length_take, List.length_drop]
  refine ⟨by omega, by omega, fun h => ?_⟩
  simp
  omega
/-- the bytes of the first so many pieces -/
def firsts (b : List UInt8) (k : Nat) : List UInt8 := (((pcs b).take k).map (·.2)).flatten
theorem firsts_succ {b : List UInt8} {k : Nat} {x : Bool × List UInt8} (h : (pcs b)[k]? = some x) : firsts b (k + 1) = firsts b k ++ x.2 := by
  unfold firsts
  rw [List.take_add_one, h]
  simp
theorem firsts_le (b : List UInt8) (k : Nat) : (firsts b k).length ≤ b.length := by
  have h := pcs_all b
  rw [← List.take_append_drop k (pcs b), List.map_append, List.flatten_append] at h
  have := congrArg List.length h
  rw [List.length_append] at this
  unfold firsts
  omega
theorem firsts_all {b : List UInt8} {k : Nat} (h : (pcs b).length ≤ k) : firsts b k = b := by
  unfold firsts
  rw [List.take_of_length_le h, pcs_all]

/-- a sender, a joiner, what came whole, how many messages there were -/
structure Cm where
  s : St
  tk : Nat
  acc : List UInt8
  got : List UInt8
  n : Nat

abbrev Told := Int × Bool × List UInt8
def errOf (c : Cm) (p : Told) : Option Int := tkErr (c.tk : Int) c.acc p.2.2 p.1 p.2.1
/-- what a piece that comes makes of the joiner -/
def tkOf (c : Cm) (p : Told) : Nat := (tkTaken (c.tk : Int) (errOf c p)).toNat
def gotOf (c : Cm) (p : Told) : List UInt8 := if tkWhole p.2.1 (errOf c p) then tkOut c.acc p.2.2 p.2.1 (errOf c p) else c.got
def Cm.hear (gone : List Bool) (c : Cm) (p : Told) : Cm :=
  if lostB gone (c.n + 1) then { c with n := c.n + 1 } else
    { s := if lostB gone (c.n + 2) then c.s else ackS c.s (tkOf c p), tk := tkOf c p, acc := tkAcc c.acc p.2.2 p.2.1 (errOf c p), got := gotOf c p, n := c.n + 2 }

/-- what is so of them while the bytes b, whose pieces begin behind N, are under way -/
structure Inv (N : Nat) (b : List UInt8) (c : Cm) : Prop where
  ok : c.s.Ok
  a0 : N ≤ c.s.acked
  tot : c.s.tot = N + (pcs b).length
  run : c.s.fl ++ c.s.wt = (pcs b).drop (c.s.acked - N)
  t1 : c.s.acked ≤ c.tk
  t2 : c.tk ≤ c.s.last
  acc : c.acc = if c.tk < N + (pcs b).length then firsts b (c.tk - N) else []
  got : c.tk = N + (pcs b).length → c.got = b

/-- a piece of those, up to a number -/
def Gen (N : Nat) (b : List UInt8) (m : Nat) (p : Told) : Prop := ∃ i x, (pcs b)[i]? = some x ∧ p = (((N + i + 1 : Nat) : Int), x.1, x.2) ∧ N + i + 1 ≤ m

theorem err_of {N : Nat} {b : List UInt8} {c : Cm} (h : Inv N b c) (hb : b.length ≤ 500) {i : Nat} {x : Bool × List UInt8} (hx : (pcs b)[i]? = some x) :
    errOf c (((N + i + 1 : Nat) : Int), x.1, x.2) = if N + i = c.tk then none else some 2 := by
  unfold errOf tkErr
  simp only
  split
  · rename_i hne
    rw [if_neg]; omega
  · rename_i he
    have he' : N + i = c.tk := by omega
    rw [if_pos he', if_neg]
    obtain ⟨s1, s2, s3⟩ := pcs_size hx
    have hacc : c.acc.length ≤ 500 := by
      rw [h.acc]
      split
      · exact Nat.le_trans (firsts_le _ _) hb
      · simp
    rintro (h1 | h1 | ⟨h1, h2⟩ | h1)
    · omega
    · omega
    · rw [s3 h1] at h2; cases h2
    · omega

theorem ack_fine {N : Nat} {b : List UInt8} {c : Cm} (h : Inv N b c) {t : Nat} (h2 : t ≤ c.s.last) : ackE c.s (t : Int) = 0 := by
  have h3 : c.s.last = c.s.acked + c.s.fl.length := rfl
  have : ackB c.s (t : Int) = false := by
    unfold ackB
    rw [Bool.or_eq_false_iff]
    simp only [decide_eq_false_iff_not]
    omega
  unfold ackE
  rw [this]; rfl

theorem ack_acked {N : Nat} {b : List UInt8} {c : Cm} (h : Inv N b c) {t : Nat} (h1 : c.s.acked ≤ t) (h2 : t ≤ c.s.last) : (ackS c.s (t : Int)).acked = t ∧ (ackS c.s (t : Int)).fl = c.s.fl.drop (t - c.s.acked) := by
  have h3 : c.s.last = c.s.acked + c.s.fl.length := rfl
  have : ackB c.s (t : Int) = false := by
    unfold ackB
    rw [Bool.or_eq_false_iff]
    simp only [decide_eq_false_iff_not]
    omega
  unfold ackS
  rw [this]
  simp only [Bool.false_eq_true, if_false]
  split
  · simp only [St.after]
    constructor
    · omega
    · congr 1
  · have e : t = c.s.acked := by omega
    subst e
    simp

/-- the joiner behind a piece of those -/
theorem tk_of {N : Nat} {b : List UInt8} {c : Cm} (h : Inv N b c) (hb : b.length ≤ 500) {i : Nat} {x : Bool × List UInt8} (hx : (pcs b)[i]? = some x) :
    tkOf c (((N + i + 1 : Nat) : Int), x.1, x.2) = if N + i = c.tk then c.tk + 1 else c.tk := by
  unfold tkOf
  rw [err_of h hb hx]
  split
  · simp only [tkTaken]; omega
  · simp only [tkTaken]; omega

theorem hear_inv {N : Nat} {b : List UInt8} {c : Cm} {gone : List Bool} {p : Told} (h : Inv N b c) (hb : b.length ≤ 500) (hp : Gen N b c.s.last p) :
    Inv N b (c.hear gone p) ∧ (c.hear gone p).s.last = c.s.last ∧ (c.hear gone p).s.wt = c.s.wt ∧ c.s.acked ≤ (c.hear gone p).s.acked ∧ c.n + 1 ≤ (c.hear gone p).n ∧ (c.hear gone p).n ≤ c.n + 2 ∧
      tkOf c p ≤ c.s.last ∧ c.s.acked ≤ tkOf c p ∧ (p.1 = (c.s.acked : Int) + 1 → gone.length ≤ c.n → c.s.acked + 1 ≤ (c.hear gone p).s.acked) := by
  obtain ⟨i, x, hx, rfl, hm⟩ := hp
  have ht := tk_of h hb hx
  have he := err_of h hb hx
  obtain ⟨g1, g2, g3⟩ := pcs_get hx
  have k1 := h.t1
  have k2 := h.t2
  have ka := h.a0
  have hle : tkOf c (((N + i + 1 : Nat) : Int), x.1, x.2) ≤ c.s.last := by rw [ht]; split <;> omega
  have hge : c.s.acked ≤ tkOf c (((N + i + 1 : Nat) : Int), x.1, x.2) := by rw [ht]; split <;> omega
  by_cases l1 : lostB gone (c.n + 1) = true
  · have hc : c.hear gone (((N + i + 1 : Nat) : Int), x.1, x.2) = { c with n := c.n + 1 } := by unfold Cm.hear; rw [if_pos l1]
    rw [hc]
    refine ⟨⟨h.ok, h.a0, h.tot, h.run, h.t1, h.t2, h.acc, h.got⟩, rfl, rfl, Nat.le_refl _, Nat.le_refl _, by simp only; omega, hle, hge, fun _ hg => ?_⟩
    rw [lostB_late (by omega)] at l1; cases l1
  · have hc : c.hear gone (((N + i + 1 : Nat) : Int), x.1, x.2) = { s := if lostB gone (c.n + 2) then c.s else ackS c.s (tkOf c (((N + i + 1 : Nat) : Int), x.1, x.2)), tk := tkOf c (((N + i + 1 : Nat) : Int), x.1, x.2), acc := tkAcc c.acc x.2 x.1 (errOf c (((N + i + 1 : Nat) : Int), x.1, x.2)), got := gotOf c (((N + i + 1 : Nat) : Int), x.1, x.2), n := c.n + 2 } := by unfold Cm.hear; rw [if_neg l1]
    rw [hc]
    obtain ⟨a1, a2, a3, a4⟩ := ackS_facts c.s (tkOf c (((N + i + 1 : Nat) : Int), x.1, x.2) : Int)
    obtain ⟨b1, b2⟩ := ack_acked h hge hle
    have hacc : tkAcc c.acc x.2 x.1 (errOf c (((N + i + 1 : Nat) : Int), x.1, x.2)) = if tkOf c (((N + i + 1 : Nat) : Int), x.1, x.2) < N + (pcs b).length then firsts b (tkOf c (((N + i + 1 : Nat) : Int), x.1, x.2) - N) else [] := by
      rw [he, ht]
      by_cases e : N + i = c.tk
      · rw [if_pos e, if_pos e]
        simp only [tkAcc]
        have hi : c.tk - N = i := by omega
        rw [g1]
        by_cases e2 : i + 1 = (pcs b).length
        · have hc1 : ¬ c.tk + 1 < N + (pcs b).length := by omega
          rw [if_neg hc1]
          simp [e2]
        · have hc1 : c.tk + 1 < N + (pcs b).length := by omega
          rw [if_pos hc1]
          simp only [e2, decide_false, Bool.false_eq_true, if_false]
          rw [show c.tk + 1 - N = i + 1 from by omega, firsts_succ hx, h.acc, if_pos (by omega), hi]
      · rw [if_neg e, if_neg e]
        exact h.acc
    have hgot : tkOf c (((N + i + 1 : Nat) : Int), x.1, x.2) = N + (pcs b).length → gotOf c (((N + i + 1 : Nat) : Int), x.1, x.2) = b := by
      unfold gotOf
      rw [he, ht]
      by_cases e : N + i = c.tk
      · rw [if_pos e, if_pos e]
        intro hn
        have e2 : i + 1 = (pcs b).length := by omega
        simp only [tkWhole, tkOut]
        rw [g1]
        simp only [e2, decide_true, if_true]
        rw [h.acc, if_pos (by omega), show c.tk - N = i from by omega, ← firsts_succ hx]
        exact firsts_all (by omega)
      · rw [if_neg e, if_neg e]
        exact h.got
    by_cases l2 : lostB gone (c.n + 2) = true
    · simp only [l2, if_true]
      refine ⟨⟨h.ok, h.a0, h.tot, h.run, hge, hle, hacc, hgot⟩, by trivial, by trivial, Nat.le_refl _, by omega, Nat.le_refl _, hle, hge, fun _ hg => ?_⟩
      rw [lostB_late (by omega)] at l2; cases l2
    · have l2' : lostB gone (c.n + 2) = false := by simpa using l2
      simp only [l2', Bool.false_eq_true, if_false]
      have hl3 : (ackS c.s (tkOf c (((N + i + 1 : Nat) : Int), x.1, x.2) : Int)).last = c.s.last := a2
      refine ⟨⟨a4 h.ok, Nat.le_trans h.a0 a1, ?_, ?_, by simp only [b1]; exact Nat.le_refl _, by simp only [hl3]; exact hle, hacc, hgot⟩, a2, a3, a1, by omega, Nat.le_refl _, hle, hge, fun hp hg => ?_⟩
      · have := h.tot
        rw [tot_last] at this ⊢
        simp only [a3, hl3]; exact this
      · simp only [a3, b1, b2]
        have hfl : tkOf c (((N + i + 1 : Nat) : Int), x.1, x.2) - c.s.acked ≤ c.s.fl.length := by
          have : c.s.last = c.s.acked + c.s.fl.length := rfl
          omega
        have hd := congrArg (List.drop (tkOf c (((N + i + 1 : Nat) : Int), x.1, x.2) - c.s.acked)) h.run
        rw [List.drop_append_of_le_length hfl, List.drop_drop] at hd
        rw [hd]
        congr 1; omega
      · simp only [b1]
        rw [ht]
        have hp' : ((N + i + 1 : Nat) : Int) = (c.s.acked : Int) + 1 := hp
        have : N + i = c.s.acked := by omega
        split
        · omega
        · omega

/-- pieces, one behind the other -/
def hears (gone : List Bool) (c : Cm) (l : List Told) : Cm := l.foldl (Cm.hear gone) c
theorem hears_inv {N : Nat} {b : List UInt8} {gone : List Bool} (hb : b.length ≤ 500) : ∀ (l : List Told) (c : Cm), Inv N b c → (∀ p ∈ l, Gen N b c.s.last p) →
    Inv N b (hears gone c l) ∧ (hears gone c l).s.last = c.s.last ∧ (hears gone c l).s.wt = c.s.wt ∧ c.s.acked ≤ (hears gone c l).s.acked ∧ c.n + l.length ≤ (hears gone c l).n ∧ (hears gone c l).n ≤ c.n + 2 * l.length
  | [], c, h, _ => ⟨h, rfl, rfl, Nat.le_refl _, by simp [hears], by simp [hears]⟩
  | p :: l, c, h, hg => by
    obtain ⟨h1, h2, h3, h4, h5, h6, _⟩ := hear_inv (gone := gone) h hb (hg p (by simp))
    obtain ⟨k1, k2, k3, k4, k5, k6⟩ := hears_inv hb l (c.hear gone p) h1 (fun q hq => by rw [h2]; exact hg q (by simp [hq]))
    have e : hears gone c (p :: l) = hears gone (c.hear gone p) l := rfl
    rw [e]
    refine ⟨k1, k2.trans h2, k3.trans h3, Nat.le_trans h4 k4, ?_, ?_⟩
    · simp only [List.length_cons]; omega
    · simp only [List.length_cons]; omega
theorem hears_take {gone : List Bool} {c : Cm} {l : List Told} {k : Nat} {p : Told} (h : l[k]? = some p) : hears gone c (l.take (k + 1)) = (hears gone c (l.take k)).hear gone p := by
  unfold hears
  rw [List.take_add_one, h]
  simp

/-- what a tick and a Send tell; the state behind them -/
def outOf (s : St) : List Told := tickO s ++ sendO (tickS s)
def Cm.go (c : Cm) : Cm := { c with s := sendS (tickS c.s) }
def round (gone : List Bool) (c : Cm) : Cm := hears gone c.go (outOf c.s)
def idleB (s : St) : Bool := s.fl.isEmpty && s.wt.isEmpty

theorem numd_get : ∀ (l : List (Bool × List UInt8)) (a k : Nat) (p : Told), (numd a l)[k]? = some p → ∃ x, l[k]? = some x ∧ p = (((a + k + 1 : Nat) : Int), x.1, x.2)
  | [], a, k, p, h => by simp [numd] at h
  | x :: l, a, 0, p, h => by simp [numd] at h; exact ⟨x, rfl, by rw [← h]; rfl⟩
  | x :: l, a, k + 1, p, h => by
    simp only [numd, List.getElem?_cons_succ] at h
    obtain ⟨y, h1, h2⟩ := numd_get l (a + 1) k p h
    exact ⟨y, by simpa using h1, by rw [h2, show a + 1 + k + 1 = a + (k + 1) + 1 from by omega]⟩

theorem go_inv {N : Nat} {b : List UInt8} {c : Cm} (h : Inv N b c) : Inv N b c.go ∧ c.go.s.acked = c.s.acked ∧ c.go.n = c.n ∧ c.go.s.wt = c.s.wt.drop (sendK (tickS c.s)) ∧ (∀ p ∈ outOf c.s, Gen N b c.go.s.last p) := by
  obtain ⟨t1, t2, t3, t4⟩ := tickS_facts c.s
  obtain ⟨s1, s2, s3, s4⟩ := sendS_facts (tickS c.s)
  obtain ⟨k1, k2⟩ := sendK_le (tickS c.s)
  have hf : (sendS (tickS c.s)).fl = c.s.fl ++ c.s.wt.take (sendK (tickS c.s)) := by show (tickS c.s).fl ++ (tickS c.s).wt.take _ = _; rw [t2, t3]
  have hw : (sendS (tickS c.s)).wt = c.s.wt.drop (sendK (tickS c.s)) := by show (tickS c.s).wt.drop _ = _; rw [t3]
  have ha : (sendS (tickS c.s)).acked = c.s.acked := s1.trans t1
  have htt : (tickS c.s).tot = c.s.tot := by simp only [St.tot, t1, t2, t3]
  have hla : c.s.last ≤ (sendS (tickS c.s)).last := by
    have : (tickS c.s).last = c.s.last := by simp only [St.last, t1, t2]
    omega
  have hla2 : (sendS (tickS c.s)).last = c.s.last + (c.s.wt.take (sendK (tickS c.s))).length := by
    rw [s2, t3]; simp only [St.last, t1, t2]
  refine ⟨⟨s4 (t4 h.ok), by simp only [Cm.go, ha]; exact h.a0, by simp only [Cm.go, s3, htt]; exact h.tot, ?_, by simp only [Cm.go, ha]; exact h.t1, Nat.le_trans h.t2 hla, h.acc, h.got⟩, ha, rfl, hw, ?_⟩
  · simp only [Cm.go, hf, hw, ha]
    rw [List.append_assoc, List.take_append_drop]
    exact h.run
  · intro p hp
    simp only [Cm.go]
    rw [hla2]
    have hrun := h.run
    have ha0 := h.a0
    unfold outOf at hp
    rcases List.mem_append.1 hp with hp | hp
    · rcases tickO_or c.s with e | e
      · rw [e] at hp; cases hp
      · rw [e] at hp
        obtain ⟨k, hk⟩ := List.getElem?_of_mem hp
        obtain ⟨x, hx, rfl⟩ := numd_get _ _ _ _ hk
        have hkl := (List.getElem?_eq_some_iff.1 hx).1
        have hx2 : (c.s.fl ++ c.s.wt)[k]? = some x := by rw [List.getElem?_append_left hkl]; exact hx
        rw [hrun, List.getElem?_drop] at hx2
        refine ⟨_, x, hx2, ?_, ?_⟩
        · congr 2; omega
        · simp only [St.last]; omega
    · unfold sendO at hp
      rw [t1, t2, t3] at hp
      obtain ⟨k, hk⟩ := List.getElem?_of_mem hp
      obtain ⟨x, hx, rfl⟩ := numd_get _ _ _ _ hk
      have hkl := (List.getElem?_eq_some_iff.1 hx).1
      have hx1 : c.s.wt[k]? = some x := by
        rw [List.getElem?_take_of_lt (by rw [List.length_take] at hkl; omega)] at hx
        exact hx
      have hx2 : (c.s.fl ++ c.s.wt)[c.s.fl.length + k]? = some x := by rw [List.getElem?_append_right (by omega), show c.s.fl.length + k - c.s.fl.length = k from by omega]; exact hx1
      rw [hrun, List.getElem?_drop] at hx2
      refine ⟨_, x, hx2, ?_, ?_⟩
      · congr 2; omega
      · simp only [St.last]; omega

/-- how many rounds there still may be -/
def Phi (N : Nat) (b : List UInt8) (c : Cm) : Nat := 17 * ((300 - c.n) + (N + (pcs b).length - c.s.acked) + c.s.wt.length) + (16 - c.s.waited).toNat

theorem round_inv {N : Nat} {b : List UInt8} {c : Cm} {gone : List Bool} (h : Inv N b c) (hb : b.length ≤ 500) : Inv N b (round gone c) ∧ (round gone c).n ≤ c.n + 16 := by
  obtain ⟨g1, g2, g3, g4, g5⟩ := go_inv h
  obtain ⟨k1, k2, k3, k4, k5, k6⟩ := hears_inv (gone := gone) hb (outOf c.s) c.go g1 g5
  refine ⟨k1, ?_⟩
  have hlen : (outOf c.s).length ≤ 8 := by
    obtain ⟨t1, t2, t3, t4⟩ := tickS_facts c.s
    obtain ⟨q1, q2⟩ := sendK_le (tickS c.s)
    have hfl := h.ok.fl
    have h4 := q2 (by rw [t2]; exact hfl)
    have hs : (sendO (tickS c.s)).length ≤ 4 := by
      unfold sendO
      rw [numd_len, List.length_take]; omega
    unfold outOf
    rw [List.length_append]
    rcases tickO_or c.s with e | e
    · rw [e]; simp; omega
    · rw [e, numd_len]; omega
  have : (hears gone c.go (outOf c.s)) = round gone c := rfl
  rw [this] at k6
  omega

theorem round_less {N : Nat} {b : List UInt8} {c : Cm} {gone : List Bool} (h : Inv N b c) (hb : b.length ≤ 500) (hi : idleB c.s = false) (hg : gone.length ≤ 300) : Phi N b (round gone c) + 1 ≤ Phi N b c := by
  obtain ⟨g1, g2, g3, g4, g5⟩ := go_inv h
  obtain ⟨k1, k2, k3, k4, k5, k6⟩ := hears_inv (gone := gone) hb (outOf c.s) c.go g1 g5
  obtain ⟨t1, t2, t3, t4⟩ := tickS_facts c.s
  obtain ⟨q1, q2⟩ := sendK_le (tickS c.s)
  have hfl := h.ok.fl
  have w1 := h.ok.w0
  have w2 := h.ok.w1
  have w3 := h.ok.p1
  have v1 := k1.ok.w0
  have v2 := k1.ok.w1
  have v3 := k1.ok.p1
  have htot := h.tot
  have htot2 := k1.tot
  simp only [St.tot] at htot htot2
  have e : (hears gone c.go (outOf c.s)) = round gone c := rfl
  rw [e] at k1 k2 k3 k4 k5 k6 v1 v2 v3 htot2
  have hwl : (round gone c).s.wt.length = c.s.wt.length - sendK (tickS c.s) := by rw [k3, g4, List.length_drop]
  by_cases hso : sendO (tickS c.s) = []
  · have hk0 : sendK (tickS c.s) = 0 := by
      have := congrArg List.length hso
      unfold sendO at this
      rw [numd_len, List.length_take, List.length_nil] at this
      omega
    have hne : c.s.fl ≠ [] := by
      intro h0
      unfold sendK at hk0
      rw [t2, t3, h0] at hk0
      simp only [List.length_nil] at hk0
      have hw0 : c.s.wt = [] := List.eq_nil_of_length_eq_zero (by omega)
      simp [idleB, h0, hw0] at hi
    by_cases hto : tickO c.s = []
    · have hout : outOf c.s = [] := by unfold outOf; rw [hto, hso]; rfl
      have hr : round gone c = c.go := by unfold round; rw [hout]; rfl
      have hlt : c.s.waited + 1 < c.s.patience := by
        unfold tickO at hto
        rw [if_neg hne] at hto
        split at hto
        · assumption
        · have := congrArg List.length hto
          rw [numd_len] at this
          exact absurd (List.eq_nil_of_length_eq_zero this) hne
      have hwt : (round gone c).s.waited = c.s.waited + 1 := by
        rw [hr]
        show (calmS (tickS c.s)).waited = _
        unfold calmS
        rw [t2, if_neg hne]
        unfold tickS
        rw [if_neg hne, if_pos hlt]
      have hn : (round gone c).n = c.n := by rw [hr]; exact g3
      have hac : (round gone c).s.acked = c.s.acked := by rw [hr]; exact g2
      unfold Phi
      rw [hwt, hn, hac, hwl, hk0]
      omega
    · -- all that flies is told again
      have hto2 : tickO c.s = numd c.s.acked c.s.fl := (tickO_or c.s).resolve_left hto
      obtain ⟨x, r, hx⟩ : ∃ x r, c.s.fl = x :: r := by
        cases hc : c.s.fl with
        | nil => exact absurd hc hne
        | cons x r => exact ⟨x, r, rfl⟩
      have hout : ∃ q, outOf c.s = (((c.s.acked + 1 : Nat) : Int), x.1, x.2) :: q := by
        unfold outOf
        rw [hto2, hx]
        exact ⟨_, rfl⟩
      obtain ⟨q, hq⟩ := hout
      have hlen : 1 ≤ (outOf c.s).length := by rw [hq]; simp
      by_cases hn : c.n < 300
      · unfold Phi
        rw [hwl]
        rw [g2] at k4
        rw [g3] at k5
        omega
      · have hprog : c.s.acked + 1 ≤ (round gone c).s.acked := by
          obtain ⟨h1, h2, h3, h4, h5, h6, h7, h8, h9⟩ := hear_inv (gone := gone) g1 hb (g5 (((c.s.acked + 1 : Nat) : Int), x.1, x.2) (by rw [hq]; simp))
          have h10 := h9 (by simp only [g2]; omega) (by omega)
          have h11 := (hears_inv (gone := gone) hb q (c.go.hear gone (((c.s.acked + 1 : Nat) : Int), x.1, x.2)) h1 (fun p hp => by rw [h2]; exact g5 p (by rw [hq]; simp [hp]))).2.2.2.1
          have he : round gone c = hears gone (c.go.hear gone (((c.s.acked + 1 : Nat) : Int), x.1, x.2)) q := by unfold round; rw [hq]; rfl
          rw [he]
          omega
        unfold Phi
        rw [hwl]
        rw [g3] at k5
        omega
  · have hk1 : 1 ≤ sendK (tickS c.s) := by
      apply Nat.one_le_iff_ne_zero.2
      intro h0
      apply hso
      unfold sendO
      rw [h0]; rfl
    rw [t3] at q1
    unfold Phi
    rw [hwl]
    rw [g2] at k4
    rw [g3] at k5
    omega

/-- a load on an idle sender -/
def Cm.load (c : Cm) (b : List UInt8) : Cm := { c with s := lS c.s (cks b), got := [] }
theorem load_inv {b : List UInt8} {c : Cm} (h0 : b ≠ []) (hb : b.length ≤ 500) (hok : c.s.Ok) (hi : idleB c.s = true) (ht : c.tk = c.s.acked) (ha : c.acc = []) (hm : c.s.acked ≤ 900000) :
    lE c.s (cks b) = 0 ∧ Inv c.s.acked b (c.load b) ∧ Phi c.s.acked b (c.load b) ≤ 5600 := by
  have hr := cks_right h0
  simp only [idleB, Bool.and_eq_true, List.isEmpty_iff] at hi
  obtain ⟨i1, i2⟩ := hi
  have hE : lE c.s (cks b) = 0 := by
    unfold lE
    rw [hr, i1, i2]; rfl
  have hS : lS c.s (cks b) = { c.s with wt := pcs b } := by unfold lS; rw [if_pos hE]; rfl
  have hl := pcs_len b
  have hpos : 0 < b.length := List.length_pos_iff.2 h0
  refine ⟨hE, ⟨?_, ?_, ?_, ?_, ?_, ?_, ?_, ?_⟩, ?_⟩ <;> simp only [Cm.load, hS]
  · exact ⟨hok.fl, by simp only [i1, hl]; simp; omega, hok.w0, hok.w1, hok.p0, hok.p1⟩
  · exact Nat.le_refl _
  · simp [St.tot, i1]
  · simp [i1]
  · omega
  · simp [St.last, i1, ht]
  · rw [ht, if_pos (by omega), ha]; simp [firsts]
  · intro h; omega
  · have := hok.w0
    unfold Phi
    simp only
    rw [hl]
    omega
/-- behind it all -/
theorem end_inv {N : Nat} {b : List UInt8} {c : Cm} (h : Inv N b c) (hi : idleB c.s = true) : c.got = b ∧ c.tk = c.s.acked ∧ c.acc = [] ∧ c.s.acked = N + (pcs b).length := by
  simp only [idleB, Bool.and_eq_true, List.isEmpty_iff] at hi
  obtain ⟨i1, i2⟩ := hi
  have h1 := h.tot
  have h2 := h.t1
  have h3 := h.t2
  simp only [St.tot, St.last, i1, i2, List.length_nil] at h1 h3
  refine ⟨h.got (by omega), by omega, ?_, by omega⟩
  rw [h.acc, if_neg (by omega)]
end Go.Proofs.Ytiljpbncfofnhaa.Comes
