/- wire: Whole of both; the document's same. -/
import Derived.Test.YtiommdidkhohgaaWireH
import Derived.Test.YtiommdidkhohgaaWireM
import Derived.Outline
import Derived.BigQuiet
import Derived.Deep.QuietTactic
import Derived.Deep.RegionWith
import Derived.Deep.RegionHeld3
import Derived.Deep.DrawnRows
import Derived.Deep.LoopGhost
import Derived.Deep.DeepCutAuto
import Derived.Laws.EntriesVeiled
namespace Go.Proofs.Ytiommdidkhohgaa.Wire
open Go.RowKit Go.ChangeShapes Go.WideShapes Go.ChangeAt
set_option linter.unusedVariables false
set_option linter.unusedSimpArgs false
attribute [local go_sem ↓] Go.wp_at_zero Go.wp_at_succ
open Go.Shelf Go.Proofs.Ytiommdidkhohgaa.Word

/-- what Whole leaves -/
def RetWhole (w : World) (x : List WV × Int) (e : Ending) (w' : World) : Prop :=
  Below w.heap.size w w' ∧ ∃ A n c rs, e = .returned (.tuple #[.slice A n c, .int .i64 x.2]) ∧ rs.map Wr.v = x.1 ∧ VOwn w.heap.size w' A n c rs

theorem whole_any (s : ByteArray) (l : List UInt8) (A : Option Addr) (n cap : Nat) (w : World) (hs : s.data.toList.length ≤ 1000000) (hl : BySl w w.heap.size A l) (hn : Hid (n = l.length)) (hc : n ≤ cap) (hm : n ≤ 1000000000000) :
    Calls Try.prog 19 #[.string s, .slice A n cap] w (RetWhole w (wholeP s.data.toList l)) := by
  have ht := fun W (h : BySl W W.heap.size A l) => take_any s l A n cap W hs h hn hc hm
  have hl2 := Lib.hid hl
  have hw : Hid (wholeP s.data.toList l = if (takeP s.data.toList l).2.2 = 0 ∧ (takeP s.data.toList l).2.1 < n then ([], 40) else ((takeP s.data.toList l).1, (takeP s.data.toList l).2.2)) := by rw [hn.out]; rfl
  generalize takeP s.data.toList l = x at *
  generalize wholeP s.data.toList l = y at *
  obtain ⟨vs, u, er⟩ := x
  simp only at hw
  clear hl
  by_cases he : er = 0
  · subst he
    by_cases hu : u < n
    · have hy : Hid (y = ([], 40)) := by rw [Hid, hw.out, if_pos ⟨rfl, hu⟩]
      have d1 : decide (u < n) = true := decide_eq_true hu
      go_enter Try.func19, Try.ntmps19
      go_wp2_with (go_at_call 16; refine (ht _ hl2.out).mono ?_; rintro e w1 ⟨hb, A1, n1, c1, rs, rfl, hrs, hvo⟩)
      refine bodyPost_ret (v := .tuple #[.slice none 0 0, .int .i64 40]) (by simp [results, Try.results19, go_sem]) rfl ⟨hb, none, 0, 0, [], by rw [hy.out], by rw [hy.out]; rfl, VOwn.nil _ _⟩
    · have hy : Hid (y = (vs, 0)) := by rw [Hid, hw.out, if_neg (fun h => hu h.2)]
      have d1 : decide (u < n) = false := decide_eq_false hu
      go_enter Try.func19, Try.ntmps19
      go_wp2_with (go_at_call 16; refine (ht _ hl2.out).mono ?_; rintro e w1 ⟨hb, A1, n1, c1, rs, rfl, hrs, hvo⟩)
      refine bodyPost_ret (v := .tuple #[.slice A1 n1 c1, .int .i64 0]) (by simp [results, Try.results19, go_sem]) rfl ⟨hb, A1, n1, c1, rs, by rw [hy.out], by rw [hy.out]; exact hrs, hvo⟩
  · have hy : Hid (y = (vs, er)) := by rw [Hid, hw.out, if_neg (fun h => he h.1)]
    have d1 : (er == 0) = false := by simpa using he
    go_enter Try.func19, Try.ntmps19
    go_wp2_with (go_at_call 16; refine (ht _ hl2.out).mono ?_; rintro e w1 ⟨hb, A1, n1, c1, rs, rfl, hrs, hvo⟩)
    refine bodyPost_ret (v := .tuple #[.slice A1 n1 c1, .int .i64 er]) (by simp [results, Try.results19, go_sem]) rfl ⟨hb, A1, n1, c1, rs, by rw [hy.out], by rw [hy.out]; exact hrs, hvo⟩
theorem rwhole_any (s : ByteArray) (l : List UInt8) (A : Option Addr) (n cap : Nat) (w : World) (hs : s.data.toList.length ≤ 1000000) (hl : BySl w w.heap.size A l) (hn : Hid (n = l.length)) (hc : n ≤ cap) (hm : n ≤ 1000000000000) :
    Calls Try.prog 20 #[.string s, .slice A n cap] w (RetWhole w (wholeP s.data.toList l)) := by
  have ht := fun W (h : BySl W W.heap.size A l) => rtake_any s l A n cap W hs h hn hc hm
  have hl2 := Lib.hid hl
  have hw : Hid (wholeP s.data.toList l = if (takeP s.data.toList l).2.2 = 0 ∧ (takeP s.data.toList l).2.1 < n then ([], 40) else ((takeP s.data.toList l).1, (takeP s.data.toList l).2.2)) := by rw [hn.out]; rfl
  generalize takeP s.data.toList l = x at *
  generalize wholeP s.data.toList l = y at *
  obtain ⟨vs, u, er⟩ := x
  simp only at hw
  clear hl
  by_cases he : er = 0
  · subst he
    by_cases hu : u < n
    · have hy : Hid (y = ([], 40)) := by rw [Hid, hw.out, if_pos ⟨rfl, hu⟩]
      have d1 : decide (u < n) = true := decide_eq_true hu
      go_enter Try.func20, Try.ntmps20
      go_wp2_with (go_at_call 17; refine (ht _ hl2.out).mono ?_; rintro e w1 ⟨hb, A1, n1, c1, rs, rfl, hrs, hvo⟩)
      refine bodyPost_ret (v := .tuple #[.slice none 0 0, .int .i64 40]) (by simp [results, Try.results20, go_sem]) rfl ⟨hb, none, 0, 0, [], by rw [hy.out], by rw [hy.out]; rfl, VOwn.nil _ _⟩
    · have hy : Hid (y = (vs, 0)) := by rw [Hid, hw.out, if_neg (fun h => hu h.2)]
      have d1 : decide (u < n) = false := decide_eq_false hu
      go_enter Try.func20, Try.ntmps20
      go_wp2_with (go_at_call 17; refine (ht _ hl2.out).mono ?_; rintro e w1 ⟨hb, A1, n1, c1, rs, rfl, hrs, hvo⟩)
      refine bodyPost_ret (v := .tuple #[.slice A1 n1 c1, .int .i64 0]) (by simp [results, Try.results20, go_sem]) rfl ⟨hb, A1, n1, c1, rs, by rw [hy.out], by rw [hy.out]; exact hrs, hvo⟩
  · have hy : Hid (y = (vs, er)) := by rw [Hid, hw.out, if_neg (fun h => he h.1)]
    have d1 : (er == 0) = false := by simpa using he
    go_enter Try.func20, Try.ntmps20
    go_wp2_with (go_at_call 17; refine (ht _ hl2.out).mono ?_; rintro e w1 ⟨hb, A1, n1, c1, rs, rfl, hrs, hvo⟩)
    refine bodyPost_ret (v := .tuple #[.slice A1 n1 c1, .int .i64 er]) (by simp [results, Try.results20, go_sem]) rfl ⟨hb, A1, n1, c1, rs, by rw [hy.out], by rw [hy.out]; exact hrs, hvo⟩

/-- it may be read -/
structure Wr.Rd (w : World) (r : Wr) : Prop where
  b : BySl w w.heap.size r.bA r.v.b
  bn : r.bn = r.v.b.length
  l : Sl w w.heap.size 1 encN r.lA r.v.l
  ln : r.ln = r.v.l.length
  wf : r.v.Wf
theorem Wr.Ok.rd {w : World} {r : Wr} (h : r.Ok w) : r.Rd w := ⟨h.b.sl encB_len, h.b.len, h.l.sl encN_len, h.l.len, h.wf⟩
theorem Wr.Rd.ext {w w' : World} {r : Wr} (h : r.Rd w) (hb : Below w.heap.size w w') : r.Rd w' := ⟨h.b.ext hb, h.bn, h.l.ext hb, h.ln, h.wf⟩

def eqN : List Nat → List Nat → Bool
  | [], [] => true
  | a :: l, b :: m => (a == b) && eqN l m
  | _, _ => false
theorem eqN_iff : ∀ l m : List Nat, eqN l m = true ↔ l = m
  | [], [] => by simp [eqN]
  | a :: l, b :: m => by simp only [eqN, Bool.and_eq_true, beq_iff_eq, eqN_iff l m, List.cons.injEq]
  | [], b :: m => by simp [eqN]
  | a :: l, [] => by simp [eqN]
theorem eqN_len {l m : List Nat} (h : l.length ≠ m.length) : eqN l m = false := by
  cases he : eqN l m with
  | false => rfl
  | true => exact absurd (congrArg List.length ((eqN_iff l m).1 he)) h
def eqV (a b : WV) : Bool := a.n == b.n && a.i == b.i && a.f == b.f && Bytes.eqB a.b b.b && eqN a.l b.l
theorem eqV_iff (a b : WV) : eqV a b = true ↔ a = b := by
  obtain ⟨n, i, f, x, l⟩ := a
  obtain ⟨n', i', f', x', l'⟩ := b
  simp only [eqV, Bool.and_eq_true, beq_iff_eq, Bytes.eqB_iff, eqN_iff, WV.mk.injEq]
  constructor
  · rintro ⟨⟨⟨⟨h1, h2⟩, h3⟩, h4⟩, h5⟩; exact ⟨h1, h2, h3, h4, h5⟩
  · rintro ⟨h1, h2, h3, h4, h5⟩; exact ⟨⟨⟨⟨h1, h2⟩, h3⟩, h4⟩, h5⟩
theorem encN_at {w : World} {B : Nat} {A : Option Addr} {l : List Nat} (h : Sl w B 1 encN A l) {k x : Nat} (hx : l[k]? = some x) :
    ∃ b off, A = some ⟨b, off, none⟩ ∧ b < B ∧ w.cell? ⟨b, off + k, none⟩ = some (.int .u64 (x : Int)) := by
  obtain ⟨b, off, hA, hb, hc⟩ := h.at_ hx
  have := hc 0 _ rfl
  rw [Nat.mul_one] at this
  exact ⟨b, off, hA, hb, this⟩
end Go.Proofs.Ytiommdidkhohgaa.Wire
