/- wire: values in memory; the program's natural, integer, flag. -/
import Derived.Test.YtiommdidkhohgaaRGet
import Derived.Test.YtiommdidkhohgaaWire
import Derived.Test.YtiommdidkhohgaaClone
import Derived.Outline
import Derived.BigQuiet
import Derived.Deep.QuietTactic
import Derived.Deep.RegionWith
import Derived.Deep.RegionHeld3
import Derived.Deep.DrawnRows
import Derived.Deep.LoopGhost
import Derived.Deep.DeepCutAuto
import Derived.Laws.EntriesVeiled
namespace Go.Proofs.Ytiommdidkhohgaa.Wire
open Go.RowKit Go.ChangeShapes Go.WideShapes Go.ChangeAt
set_option linter.unusedVariables false
set_option linter.unusedSimpArgs false
attribute [local go_sem ↓] Go.wp_at_zero Go.wp_at_succ
open Go.Shelf Go.Proofs.Ytiommdidkhohgaa.Word

def encN (x : Nat) : List Value := [.int .u64 (x : Int)]
theorem encN_len (x : Nat) : (encN x).length = 1 := rfl
theorem encN_one (x : Nat) : ∀ u ∈ encN x, u.oneCell' = true := by simp [encN, Value.oneCell']

/-- a value as it lies in memory -/
structure Wr where
  v : WV
  bA : Option Addr
  bn : Nat
  bc : Nat
  lA : Option Addr
  ln : Nat
  lc : Nat
def Wr.cells (r : Wr) : List Value := [.int .u64 (r.v.n : Int), .int .i64 r.v.i, .bool r.v.f, .slice r.bA r.bn r.bc, .slice r.lA r.ln r.lc]
def Wr.agg (r : Wr) : Value := .agg #[.int .u64 (r.v.n : Int), .int .i64 r.v.i, .bool r.v.f, .slice r.bA r.bn r.bc, .slice r.lA r.ln r.lc]
theorem Wr.cells_len (r : Wr) : r.cells.length = 5 := rfl
theorem Wr.cells_one (r : Wr) : ∀ u ∈ r.cells, u.oneCell' = true := by simp [Wr.cells, Value.oneCell']
def wr0 : Wr := ⟨wv0, none, 0, 0, none, 0, 0⟩
def WV.Wf (v : WV) : Prop := v.n < p64 ∧ -9223372036854775808 ≤ v.i ∧ v.i ≤ 9223372036854775807 ∧ (∀ x ∈ v.l, x < p64) ∧ v.b.length ≤ 1000000 ∧ v.l.length ≤ 1000000
/-- it may be read, and its bytes and numbers may be written -/
structure Wr.Ok (w : World) (r : Wr) : Prop where
  b : OwnA w 5 1 encB (.slice r.bA r.bn r.bc) r.v.b
  l : OwnA w 31 1 encN (.slice r.lA r.ln r.lc) r.v.l
  wf : r.v.Wf
/-- in blocks that are not below -/
def Wr.From (B : Nat) (r : Wr) : Prop := (∀ k, blockOf r.bA = some k → B ≤ k) ∧ ∀ k, blockOf r.lA = some k → B ≤ k
theorem Wr.Ok.chg {S : Nat → Prop} {w w' : World} {r : Wr} (h : r.Ok w) (hc : Chg S w w') (hb : ∀ k, blockOf r.bA = some k → ¬ S k) (hl : ∀ k, blockOf r.lA = some k → ¬ S k) : r.Ok w' :=
  ⟨h.b.chg hc (fun g hg => hb g (by revert hg; cases r.bA <;> simp [Value.ownBlock, blockOf])), h.l.chg hc (fun g hg => hl g (by revert hg; cases r.lA <;> simp [Value.ownBlock, blockOf])), h.wf⟩
theorem Wr.Ok.ext {w w' : World} {r : Wr} (h : r.Ok w) (hb : Below w.heap.size w w') : r.Ok w' := ⟨h.b.ext hb, h.l.ext hb, h.wf⟩
theorem wv0_wf : wv0.Wf := ⟨by decide, by decide, by decide, by simp [wv0], by decide, by decide⟩

/-- what a taking function leaves -/
def RetTk (w : World) (x : Option (WV × Nat)) (e : Ending) (w' : World) : Prop :=
  Below w.heap.size w w' ∧ match x with
    | none => e = .returned (.tuple #[wr0.agg, .int .i64 0, .bool false])
    | some (v, u) => ∃ r : Wr, r.v = v ∧ e = .returned (.tuple #[r.agg, .int .i64 (u : Int), .bool true]) ∧ r.Ok w' ∧ r.From w.heap.size

theorem getAt_zero (l : List UInt8) : getAt l 0 = getW l := by
  unfold getAt
  cases l with
  | nil => rfl
  | cons d l => rw [if_neg (by simp)]; rfl

theorem wr0_agg : wr0.agg = .agg #[.int .u64 0, .int .i64 0, .bool false, .slice none 0 0, .slice none 0 0] := rfl
theorem Wr.Ok.bare (w : World) (v : WV) (hb : v.b = []) (hl : v.l = []) (hv : v.Wf) : Wr.Ok w ⟨v, none, 0, 0, none, 0, 0⟩ :=
  ⟨by rw [hb]; exact OwnA.nil_ _ _ _ _, by rw [hl]; exact OwnA.nil_ _ _ _ _, hv⟩
theorem Wr.From.bare (B : Nat) (v : WV) : Wr.From B ⟨v, none, 0, 0, none, 0, 0⟩ := ⟨(fun k h => by simp [blockOf] at h), (fun k h => by simp [blockOf] at h)⟩

/-- the box of a value that is being made -/
def mkV (r : Wr) : Array Value := #[.int .u64 (r.v.n : Int), .int .i64 r.v.i, .bool r.v.f, .slice r.bA r.bn r.bc, .slice r.lA r.ln r.lc]
def zV : Array Value := #[.int .u64 0, .int .i64 0, .bool false, .slice none 0 0, .slice none 0 0]

theorem blk_five {w : World} {g : Nat} {t : TypeId} {x0 x1 x2 x3 x4 : Value} (h : Blk w g t #[x0, x1, x2, x3, x4]) (a0 a1 a2 a3 a4 : Value) :
    Blk (((((w.setCell ⟨g, 0, none⟩ a0).setCell ⟨g, 1, none⟩ a1).setCell ⟨g, 2, none⟩ a2).setCell ⟨g, 3, none⟩ a3).setCell ⟨g, 4, none⟩ a4) g t #[a0, a1, a2, a3, a4] :=
  ((((h.set_ 0 a0).set_ 1 a1).set_ 2 a2).set_ 3 a3).set_ 4 a4
theorem below_five {w w1 : World} {g B : Nat} (h : Below B w w1) (hg : B ≤ g) (a0 a1 a2 a3 a4 : Value) :
    Below B w (((((w1.setCell ⟨g, 0, none⟩ a0).setCell ⟨g, 1, none⟩ a1).setCell ⟨g, 2, none⟩ a2).setCell ⟨g, 3, none⟩ a3).setCell ⟨g, 4, none⟩ a4) :=
  ((((h.setCell hg _).setCell hg _).setCell hg _).setCell hg _).setCell hg _

theorem chg_five {S : Nat → Prop} {w w1 : World} {g : Nat} (h : Chg S w w1) (hg : S g) (a0 a1 a2 a3 a4 : Value) :
    Chg S w (((((w1.setCell ⟨g, 0, none⟩ a0).setCell ⟨g, 1, none⟩ a1).setCell ⟨g, 2, none⟩ a2).setCell ⟨g, 3, none⟩ a3).setCell ⟨g, 4, none⟩ a4) :=
  ((((h.setCell (fun _ => hg) _).setCell (fun _ => hg) _).setCell (fun _ => hg) _).setCell (fun _ => hg) _).setCell (fun _ => hg) _

theorem natural_any (l : List UInt8) (A : Option Addr) (n cap : Nat) (w : World) (hl : BySl w w.heap.size A l) (hn : Hid (n = l.length)) (hc : n ≤ cap) (hm : n ≤ 1000000000000) :
    Calls Try.prog 69 #[.slice A n cap] w (RetTk w (takeK .nat l)) := by
  have hB0 : Below w.heap.size w (w.alloc (.cells zV 34)) := (by repeat (first | exact Below.refl _ _ | assumption | refine Below.drew ?_ | refine bdrewN ?_ _ | refine Below.alloc ?_ (by simp; try omega) _ | refine Below.setCell ?_ (by simp; try omega) _))
  have HL := Lib.hid (hl.ext hB0)
  have HZ := Lib.hid (And.intro (Blk.new w 34 zV) hB0)
  clear hl hB0
  have hg0 : getAt l 0 = getW l := getAt_zero l
  cases hg : getW l with
  | none =>
    have ht : Hid (takeK .nat l = none) := by unfold Hid takeK; rw [hg]; rfl
    have e0 : getV (getAt l 0) = .tuple #[.int .u64 0, .int .i64 0, .bool false] := by rw [hg0, hg]; rfl
    clear hg0 hg
    go_enter Try.func69, Try.ntmps69
    go_wp2_with (go_at_call 82; refine (get_any l A n cap 0 _ HL.out hn hc hm).mono ?_; rintro e w1 ⟨rfl, hb⟩; rw [e0]; have HB : Hid (Blk w1 w.heap.size 34 zV ∧ Below w.heap.size w w1) := ⟨HZ.out.1.ext hb, ext_under HZ.out.2 (Nat.le_refl _) hb⟩; clear hb; have c0 : w1.cell? ⟨w.heap.size, 0, none⟩ = some (.int .u64 0) := HB.out.1.cell 0; have c1 : w1.cell? ⟨w.heap.size, 1, none⟩ = some (.int .i64 0) := HB.out.1.cell 1; have c2 : w1.cell? ⟨w.heap.size, 2, none⟩ = some (.bool false) := HB.out.1.cell 2; have c3 : w1.cell? ⟨w.heap.size, 3, none⟩ = some (.slice none 0 0) := HB.out.1.cell 3; have c4 : w1.cell? ⟨w.heap.size, 4, none⟩ = some (.slice none 0 0) := HB.out.1.cell 4; have f0 := HB.out.1.free 0; have f1 := HB.out.1.free 1; have f2 := HB.out.1.free 2; have f3 := HB.out.1.free 3; have f4 := HB.out.1.free 4)
    have hF := blk_five (HB.out.1.set_ 0 (.int .u64 0)) (.int .u64 0) (.int .i64 0) (.bool false) (.slice none 0 0) (.slice none 0 0)
    have q0 := hF.cell 0
    have q1 := hF.cell 1
    have q2 := hF.cell 2
    have q3 := hF.cell 3
    have q4 := hF.cell 4
    refine bodyPost_ret (v := .tuple #[wr0.agg, .int .i64 0, .bool false]) ?_ rfl ⟨below_five (HB.out.2.setCell (Nat.le_refl _) _) (Nat.le_refl _) _ _ _ _ _, by rw [ht.out]⟩
    simp [results, Try.results69, go_sem, q0, q1, q2, q3, q4, wr0_agg]
  | some x =>
    obtain ⟨v, u⟩ := x
    have ht : Hid (takeK .nat l = some ({ wv0 with n := v }, u)) := by unfold Hid takeK; rw [hg]; rfl
    have e0 : getV (getAt l 0) = .tuple #[.int .u64 (v : Int), .int .i64 (u : Int), .bool true] := by rw [hg0, hg]; rfl
    have hv := Lib.hid (get_some hg).1
    clear hg0 hg
    go_enter Try.func69, Try.ntmps69
    go_wp2_with (go_at_call 82; refine (get_any l A n cap 0 _ HL.out hn hc hm).mono ?_; rintro e w1 ⟨rfl, hb⟩; rw [e0]; have HB : Hid (Blk w1 w.heap.size 34 zV ∧ Below w.heap.size w w1) := ⟨HZ.out.1.ext hb, ext_under HZ.out.2 (Nat.le_refl _) hb⟩; clear hb; have c0 : w1.cell? ⟨w.heap.size, 0, none⟩ = some (.int .u64 0) := HB.out.1.cell 0; have c1 : w1.cell? ⟨w.heap.size, 1, none⟩ = some (.int .i64 0) := HB.out.1.cell 1; have c2 : w1.cell? ⟨w.heap.size, 2, none⟩ = some (.bool false) := HB.out.1.cell 2; have c3 : w1.cell? ⟨w.heap.size, 3, none⟩ = some (.slice none 0 0) := HB.out.1.cell 3; have c4 : w1.cell? ⟨w.heap.size, 4, none⟩ = some (.slice none 0 0) := HB.out.1.cell 4; have f0 := HB.out.1.free 0; have f1 := HB.out.1.free 1; have f2 := HB.out.1.free 2; have f3 := HB.out.1.free 3; have f4 := HB.out.1.free 4)
    have hF := blk_five (HB.out.1.set_ 0 (.int .u64 (v : Int))) (.int .u64 (v : Int)) (.int .i64 0) (.bool false) (.slice none 0 0) (.slice none 0 0)
    have q0 := hF.cell 0
    have q1 := hF.cell 1
    have q2 := hF.cell 2
    have q3 := hF.cell 3
    have q4 := hF.cell 4
    refine bodyPost_ret (v := .tuple #[(⟨{ wv0 with n := v }, none, 0, 0, none, 0, 0⟩ : Wr).agg, .int .i64 (u : Int), .bool true]) ?_ rfl ⟨below_five (HB.out.2.setCell (Nat.le_refl _) _) (Nat.le_refl _) _ _ _ _ _, by
      rw [ht.out]
      exact ⟨⟨{ wv0 with n := v }, none, 0, 0, none, 0, 0⟩, rfl, rfl, Wr.Ok.bare _ _ rfl rfl ⟨hv.out, wv0_wf.2⟩, Wr.From.bare _ _⟩⟩
    simp [results, Try.results69, go_sem, q0, q1, q2, q3, q4, Wr.agg, wv0]
end Go.Proofs.Ytiommdidkhohgaa.Wire
