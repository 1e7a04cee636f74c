/- SenderComes: the law's own steps: where it begins, what each round of it has at hand. -/
import Derived.Test.YtiljpbncfofnhaaScC
import Derived.Test.YtiljpbncfofnhaaScD
import Derived.Outline
import Derived.BigQuiet
import Derived.Deep.QuietTactic
import Derived.Deep.RegionWith
import Derived.Deep.RegionHeld3
import Derived.Deep.DrawnRows
import Derived.Deep.LoopGhost
import Derived.Deep.DeepCutAuto
import Derived.Laws.EntriesVeiled
namespace Go.Proofs.Ytiljpbncfofnhaa.Comes
open Go.RowKit Go.ChangeShapes Go.WideShapes Go.ChangeAt
set_option linter.unusedVariables false
set_option linter.unusedSimpArgs false
attribute [local go_sem ↓] Go.wp_at_zero Go.wp_at_succ
open Send JoinB JoinE

theorem Mem.new {w0 w : World} (hb : Below w0.heap.size w0 w) :
    ∃ F, Mem w0 ((w.alloc (.cells (mkS (.slice none 0 0) (.slice none 0 0) 0 0 0 2) 96)).alloc (.cells (mkJ 0 (.slice none 0 0)) 108)) w.heap.size (w.heap.size + 1) F (.slice none 0 0) ⟨z0, 0, [], [], 0⟩ none := by
  have hs := (SIn.new hb).ext ((Below.refl _ _).alloc (Nat.le_refl _) (.cells (mkJ 0 (.slice none 0 0)) 108))
  have hj := Blk.new (w.alloc (.cells (mkS (.slice none 0 0) (.slice none 0 0) 0 0 0 2) 96)) 108 (mkJ 0 (.slice none 0 0))
  rw [World.size_alloc] at hj
  exact ⟨_, hs, hj, Own.nil_ _ _ _ _ _, (by have := hb.size; omega), (by omega), (fun k hk => by cases hk), Sl.nil _ _ _ _ _, (fun k hk => by cases hk)⟩

theorem Mem.setn {w0 w : World} {gs gj : Nat} {F : Nat → Prop} {jb : Value} {c : Cm} {G : Option Addr} (h : Mem w0 w gs gj F jb c G) (n : Nat) : Mem w0 w gs gj F jb { c with n := n } G :=
  ⟨h.sin, h.jblk, h.jown, h.gb, h.djg, h.djb, h.got, h.dgot⟩

theorem acc_le {N : Nat} {b : List UInt8} {c : Cm} (h : Inv N b c) (hb : b.length ≤ 500) : c.acc.length ≤ 500 := by
  rw [h.acc]
  split
  · exact Nat.le_trans (firsts_le _ _) hb
  · simp
theorem tk_le {N : Nat} {b : List UInt8} {c : Cm} (h : Inv N b c) : c.tk ≤ 1000000 := by
  have h1 := h.t2
  have h2 := h.ok.all
  have h3 : c.s.last = c.s.acked + c.s.fl.length := rfl
  omega

/-- a piece of a round: what is so when it comes -/
theorem at_piece {N : Nat} {b : List UInt8} {c0 : Cm} {gone : List Bool} {k : Nat} {p : Told} (h : Inv N b c0) (hb : b.length ≤ 500) (hp : (outOf c0.s)[k]? = some p) :
    Inv N b (hears gone c0.go ((outOf c0.s).take k)) ∧ Gen N b (hears gone c0.go ((outOf c0.s).take k)).s.last p ∧ hears gone c0.go ((outOf c0.s).take (k + 1)) = (hears gone c0.go ((outOf c0.s).take k)).hear gone p := by
  obtain ⟨g1, g2, g3, g4, g5⟩ := go_inv h
  obtain ⟨k1, k2, _⟩ := hears_inv (gone := gone) hb ((outOf c0.s).take k) c0.go g1 (fun q hq => g5 q (List.mem_of_mem_take hq))
  refine ⟨k1, ?_, hears_take hp⟩
  rw [k2]
  exact g5 p (List.mem_of_getElem? hp)

theorem hear_lost {gone : List Bool} {c : Cm} {p : Told} (h : lostB gone (c.n + 1) = true) : c.hear gone p = { c with n := c.n + 1 } := by unfold Cm.hear; rw [if_pos h]
/-- behind Take -/
def Cm.took (c : Cm) (p : Told) : Cm := { c with tk := tkOf c p, acc := tkAcc c.acc p.2.2 p.2.1 (errOf c p), got := gotOf c p }
theorem hear_took {gone : List Bool} {c : Cm} {p : Told} (h : lostB gone (c.n + 1) = false) (h2 : lostB gone (c.n + 2) = true) : c.hear gone p = { c.took p with n := c.n + 2 } := by
  unfold Cm.hear Cm.took
  rw [h, h2]; rfl
theorem hear_ack {gone : List Bool} {c : Cm} {p : Told} (h : lostB gone (c.n + 1) = false) (h2 : lostB gone (c.n + 2) = false) : c.hear gone p = { c.took p with s := ackS c.s (tkOf c p), n := c.n + 2 } := by
  unfold Cm.hear Cm.took
  rw [h, h2]; rfl
theorem got_whole {c : Cm} {p : Told} (h : tkWhole p.2.1 (errOf c p) = true) : gotOf c p = tkOut c.acc p.2.2 p.2.1 (errOf c p) := by unfold gotOf; rw [if_pos h]
theorem got_part {c : Cm} {p : Told} (h : tkWhole p.2.1 (errOf c p) = false) : gotOf c p = c.got := by unfold gotOf; rw [h]; rfl
/-- what is told and what a Send behind it is: by the state -/
theorem go_eq (c : Cm) : ({ { c with s := tickS c.s } with s := sendS (tickS c.s) } : Cm) = c.go := rfl
theorem hears_all {gone : List Bool} {c0 : Cm} {k : Nat} (h : (outOf c0.s).length ≤ k) : hears gone c0.go ((outOf c0.s).take k) = round gone c0 := by
  rw [List.take_of_length_le h]; rfl

/-- where a load begins -/
structure Idle (j q : Nat) (c : Cm) : Prop where
  i : idleB c.s = true
  tk : c.tk = c.s.acked
  acc : c.acc = []
  ok : c.s.Ok
  a : c.s.acked ≤ 20 * j
  n : c.n = q
  q : q ≤ 100000 * j
/-- where a round of it begins -/
structure Goes (j N t q gn : Nat) (b : List UInt8) (c : Cm) : Prop where
  inv : Inv N b c
  n : c.n = q
  q : q ≤ 100000 * j + 16 * t
  got : gn = c.got.length
/-- where a piece of a round comes -/
structure Hears (gone : List Bool) (c0 : Cm) (k q gn : Nat) (c : Cm) : Prop where
  eq : c = hears gone c0.go ((outOf c0.s).take k)
  n : c.n = q
  q : q ≤ c0.n + 2 * k
  got : gn = c.got.length

theorem Idle.load {j q : Nat} {c : Cm} {b : List UInt8} (h : Idle j q c) (h0 : b ≠ []) (hb : b.length ≤ 500) (hj : j < 6) : lE c.s (cks b) = 0 ∧ Goes j c.s.acked 0 q 0 b (c.load b) ∧ Phi c.s.acked b (c.load b) ≤ 5600 := by
  obtain ⟨h1, h2, h3⟩ := load_inv (c := c) h0 hb h.ok h.i h.tk h.acc (by have := h.a; omega)
  exact ⟨h1, ⟨h2, h.n, by have := h.q; omega, rfl⟩, h3⟩
theorem Goes.end_ {j N t q gn : Nat} {b : List UInt8} {c : Cm} (h : Goes j N t q gn b c) (hi : idleB c.s = true) (hb : b.length ≤ 500) (hN : N ≤ 20 * j) (ht : t ≤ 5600) : c.got = b ∧ Idle (j + 1) q { c with got := [] } := by
  obtain ⟨e1, e2, e3, e4⟩ := end_inv h.inv hi
  refine ⟨e1, hi, e2, e3, h.inv.ok, ?_, h.n, by have := h.q; omega⟩
  show c.s.acked ≤ _
  rw [e4, pcs_len]
  omega
theorem Goes.next {j N t q q' gn gn' : Nat} {b : List UInt8} {c : Cm} {gone : List Bool} (h : Goes j N t q gn b c) (hb : b.length ≤ 500) (hn : (round gone c).n = q') (hg : gn' = (round gone c).got.length) : Goes j N (t + 1) q' gn' b (round gone c) := by
  obtain ⟨h1, h2⟩ := round_inv (gone := gone) h.inv hb
  exact ⟨h1, hn, by have := h.q; have := h.n; omega, hg⟩
end Go.Proofs.Ytiljpbncfofnhaa.Comes
