/- Words of my own for what memory holds: a slice that reads as a list of Lean data; what is kept when the world goes on. -/
import Derived.WalkKit
import Derived.WalkLawsBesides
import Derived.WalkSpells
import Derived.ProofKit
import Derived.OpenShut
import Derived.Below
import Derived.Deep.Draws
import Derived.Deep.AppendLies
import Derived.Lib.Hide
namespace Go.Proofs.Ytiljpbncfofnhaa
open Go.RowKit
set_option linter.unusedVariables false
set_option linter.unusedSimpArgs false

/-- The slice value whose address is A holds the list l, each element encoded as cells by enc (c cells each); it lies below block B. -/
def Sl {α : Type} (w : World) (B c : Nat) (enc : α → List Value) (A : Option Addr) (l : List α) : Prop :=
  l ≠ [] → ∃ b off, A = some ⟨b, off, none⟩ ∧ b < B ∧ ∀ k x, l[k]? = some x → ∀ j v, (enc x)[j]? = some v → w.cell? ⟨b, off + k * c + j, none⟩ = some v

section
variable {α : Type} {w w' : World} {B B' c : Nat} {enc : α → List Value} {A : Option Addr} {l : List α}
theorem Sl.nil (w : World) (B c : Nat) (enc : α → List Value) (A : Option Addr) : Sl w B c enc A ([] : List α) := fun h => absurd rfl h
theorem Sl.keep (h : Sl w B c enc A l) (hk : ∀ p : Addr, p.block < B → w'.cell? p = w.cell? p) : Sl w' B c enc A l := fun hl => by
  obtain ⟨b, off, e, hb, hc⟩ := h hl
  exact ⟨b, off, e, hb, fun k x hx j v hv => (hk _ hb).trans (hc k x hx j v hv)⟩
theorem Sl.more (h : Sl w B c enc A l) (hB : B ≤ B') : Sl w B' c enc A l := fun hl => by
  obtain ⟨b, off, e, hb, hc⟩ := h hl
  exact ⟨b, off, e, by omega, hc⟩
theorem Sl.below (h : Sl w B c enc A l) (hb : Below B w w') : Sl w' B c enc A l := h.keep fun _ hp => hb.cell hp
theorem Sl.below' (h : Sl w B c enc A l) (hb : Below B' w w') (hB : B ≤ B') : Sl w' B c enc A l := h.keep fun _ hp => hb.cell (by omega)
theorem Sl.drew (h : Sl w B c enc A l) : Sl w.drew B c enc A l := h
theorem Sl.drewN (h : Sl w B c enc A l) (k : Nat) : Sl (w.drewN k) B c enc A l := h
theorem Sl.alloc (h : Sl w B c enc A l) (hB : B ≤ w.heap.size) (o : Obj) : Sl (w.alloc o) B c enc A l := h.keep fun p hp => World.cell?_alloc_lt w o p (by omega)
/-- element k's cells -/
theorem Sl.at_ (h : Sl w B c enc A l) {k : Nat} {x : α} (hx : l[k]? = some x) :
    ∃ b off, A = some ⟨b, off, none⟩ ∧ b < B ∧ ∀ j v, (enc x)[j]? = some v → w.cell? ⟨b, off + k * c + j, none⟩ = some v := by
  obtain ⟨b, off, e, hb, hc⟩ := h (by rintro rfl; simp at hx)
  exact ⟨b, off, e, hb, hc k x hx⟩
end

theorem bto {B B' : Nat} {a b c : World} (h : Below B a b) (k : Below B' b c) (hB : B ≤ B') : Below B a c := h.trans (k.mono hB)
theorem bdrewN {B : Nat} {a w : World} (h : Below B a w) (n : Nat) : Below B a (w.drewN n) := ⟨h.os, h.tape, h.output, h.size, h.block⟩

theorem ret_int {k : IntKind} {a b : Int} (h : a = b) : Ending.returned (.int k a) = .returned (.int k b) := by rw [h]
theorem ret_bool {a b : Bool} (h : a = b) : Ending.returned (.bool a) = .returned (.bool b) := by rw [h]

/-- A fragment. -/
structure Fr where
  node : Int
  part : Int
  depth : Int
  x : Int
  y : Int
  w : Int
  h : Int
  text : ByteArray

def Fr.cells (f : Fr) : List Value := [.int .i64 f.node, .int .i64 f.part, .int .i64 f.depth, .int .i64 f.x, .int .i64 f.y, .int .i64 f.w, .int .i64 f.h, .string f.text]
def Fr.agg (f : Fr) : Value := .agg #[.int .i64 f.node, .int .i64 f.part, .int .i64 f.depth, .int .i64 f.x, .int .i64 f.y, .int .i64 f.w, .int .i64 f.h, .string f.text]
/-- its numbers are int's, its text no longer than may be -/
structure Fr.Wf (f : Fr) : Prop where
  node : (Lit.int .i64 f.node).wf = true
  part : (Lit.int .i64 f.part).wf = true
  depth : (Lit.int .i64 f.depth).wf = true
  x : (Lit.int .i64 f.x).wf = true
  y : (Lit.int .i64 f.y).wf = true
  w : (Lit.int .i64 f.w).wf = true
  h : (Lit.int .i64 f.h).wf = true
  text : f.text.size ≤ 140737488355328

abbrev FrSl (w : World) (B : Nat) (A : Option Addr) (l : List Fr) : Prop := Sl w B 8 Fr.cells A l

/-- the cells of fragment k -/
theorem FrSl.at_ {w : World} {B : Nat} {A : Option Addr} {l : List Fr} (h : FrSl w B A l) {k : Nat} {f : Fr} (hx : l[k]? = some f) :
    ∃ b off, A = some ⟨b, off, none⟩ ∧ b < B ∧ w.cell? ⟨b, off + k * 8, none⟩ = some (.int .i64 f.node) ∧ w.cell? ⟨b, off + k * 8 + 1, none⟩ = some (.int .i64 f.part) ∧
      w.cell? ⟨b, off + k * 8 + 2, none⟩ = some (.int .i64 f.depth) ∧ w.cell? ⟨b, off + k * 8 + 3, none⟩ = some (.int .i64 f.x) ∧ w.cell? ⟨b, off + k * 8 + 4, none⟩ = some (.int .i64 f.y) ∧
      w.cell? ⟨b, off + k * 8 + 5, none⟩ = some (.int .i64 f.w) ∧ w.cell? ⟨b, off + k * 8 + 6, none⟩ = some (.int .i64 f.h) ∧ w.cell? ⟨b, off + k * 8 + 7, none⟩ = some (.string f.text) := by
  obtain ⟨b, off, e, hb, hc⟩ := Sl.at_ h hx
  exact ⟨b, off, e, hb, hc 0 _ rfl, hc 1 _ rfl, hc 2 _ rfl, hc 3 _ rfl, hc 4 _ rfl, hc 5 _ rfl, hc 6 _ rfl, hc 7 _ rfl⟩
end Go.Proofs.Ytiljpbncfofnhaa
