/- Which blocks may have changed; a block known whole; rows of bytes that may be written. -/
import Derived.Test.YtiljpbncfofnhaaOwn
namespace Go.Proofs.Ytiljpbncfofnhaa
open Go.RowKit
set_option linter.unusedVariables false
set_option linter.unusedSimpArgs false

/-- Of the blocks of w none but those in S has turned. -/
structure Chg (S : Nat → Prop) (w w' : World) : Prop where
  os : w'.os = w.os
  tape : w'.tape = w.tape
  output : w'.output = w.output
  size : w.heap.size ≤ w'.heap.size
  block : ∀ k, k < w.heap.size → ¬ S k → w'.heap[k]? = w.heap[k]?

section
variable {S T : Nat → Prop} {a b c w w' : World}
theorem Chg.refl (S : Nat → Prop) (w : World) : Chg S w w := ⟨rfl, rfl, rfl, Nat.le_refl _, fun _ _ _ => rfl⟩
theorem Chg.trans (h : Chg S a b) (k : Chg T b c) (hT : ∀ i, i < a.heap.size → T i → S i) : Chg S a c :=
  ⟨k.os.trans h.os, k.tape.trans h.tape, k.output.trans h.output, Nat.le_trans h.size k.size,
    fun i hi hn => (k.block i (Nat.lt_of_lt_of_le hi h.size) (fun ht => hn (hT i hi ht))).trans (h.block i hi hn)⟩
theorem Chg.mono (h : Chg S a b) (hS : ∀ i, i < a.heap.size → S i → T i) : Chg T a b := ⟨h.os, h.tape, h.output, h.size, fun i hi hn => h.block i hi (fun hs => hn (hS i hi hs))⟩
theorem Chg.drew (h : Chg S a w) : Chg S a w.drew := ⟨h.os, h.tape, h.output, h.size, h.block⟩
theorem Chg.drewN (h : Chg S a w) (n : Nat) : Chg S a (w.drewN n) := ⟨h.os, h.tape, h.output, h.size, h.block⟩
theorem Chg.alloc (h : Chg S a w) (o : Obj) : Chg S a (w.alloc o) :=
  ⟨h.os, h.tape, h.output, Nat.le_trans h.size (by simp), fun i hi hn => (Below.heap_alloc w o i (Nat.lt_of_lt_of_le hi h.size)).trans (h.block i hi hn)⟩
theorem Chg.setCell (h : Chg S a w) {p : Addr} (hp : p.block < a.heap.size → S p.block) (u : Value) : Chg S a (w.setCell p u) :=
  ⟨h.os, h.tape, h.output, by simpa [World.setCell] using h.size, fun i hi hn => (Below.heap_setCell w p u i (by rintro rfl; exact hn (hp hi))).trans (h.block i hi hn)⟩
theorem Chg.of_below {B : Nat} (h : Below B a b) (hB : ∀ i, i < a.heap.size → B ≤ i → S i) : Chg S a b :=
  ⟨h.os, h.tape, h.output, h.size, fun i hi hn => h.block i (Nat.lt_of_not_le fun hge => hn (hB i hi hge))⟩
theorem Chg.of_ext (h : Below a.heap.size a b) : Chg S a b := Chg.of_below h (fun i hi hB => absurd hi (by omega))
theorem Chg.of_grown {row : Option Nat} (h : a.grownBy b row) (hr : ∀ g, row = some g → g < a.heap.size → S g) : Chg S a b :=
  ⟨h.os, h.tape, h.output, h.size, fun i hi hn => h.block i hi (fun e => hn (hr i e.symm hi))⟩
theorem Chg.below {B : Nat} (h : Chg S a b) (hB : B ≤ a.heap.size) (hS : ∀ i, i < B → ¬ S i) : Below B a b :=
  ⟨h.os, h.tape, h.output, h.size, fun i hi => h.block i (by omega) (hS i hi)⟩
theorem Chg.cell (h : Chg S w w') {p : Addr} (hp : p.block < w.heap.size) (hn : ¬ S p.block) : w'.cell? p = w.cell? p := World.cell?_of_block (w := w) (h.block p.block hp hn)
end

theorem Chg.undrewN {S : Nat → Prop} {w w' : World} {n : Nat} (h : Chg S (w.drewN n) w') : Chg S w w' := ⟨h.os, h.tape, h.output, h.size, h.block⟩
/-- what one call leaves behind another -/
theorem ext_trans {a b c : World} (h : Below a.heap.size a b) (k : Below b.heap.size b c) : Below a.heap.size a c := h.trans (k.mono h.size)
theorem ext_under {B : Nat} {a b c : World} (h : Below B a b) (hB : B ≤ a.heap.size) (k : Below b.heap.size b c) : Below B a c := h.trans (k.mono (Nat.le_trans hB h.size))

section
variable {α : Type} {w w' : World} {S : Nat → Prop} {B c : Nat} {enc : α → List Value} {A : Option Addr} {l : List α} {e : TypeId} {v : Value} {base : Nat}
/-- the block that a slice's address names -/
def blockOf (A : Option Addr) : Option Nat := A.map (·.block)
theorem Sl.chg (h : Sl w w.heap.size c enc A l) (hc : Chg S w w') (hn : ∀ g, blockOf A = some g → ¬ S g) : Sl w' w'.heap.size c enc A l := fun hl => by
  obtain ⟨b, off, hA, hb, hcell⟩ := h hl
  subst hA
  exact ⟨b, off, rfl, Nat.lt_of_lt_of_le hb hc.size, fun k x hx j v hv => (hc.cell (p := ⟨b, _, none⟩) hb (hn b rfl)).trans (hcell k x hx j v hv)⟩
theorem Sl.ext (h : Sl w w.heap.size c enc A l) (hb : Below w.heap.size w w') : Sl w' w'.heap.size c enc A l := (Sl.below h hb).more hb.size
theorem Own.chg (h : Own w base e c enc v l) (hc : Chg S w w') (hn : ∀ g, v.ownBlock = some g → ¬ S g) : Own w' base e c enc v l := by
  refine ⟨h.1, ?_⟩
  rcases h.2 with hn' | ⟨g, cap, cur, rfl, hb, hgg, rest⟩
  · exact .inl hn'
  · refine .inr ⟨g, cap, cur, rfl, hb, ?_, rest⟩
    rw [hc.block g (Array.getElem?_eq_some_iff.1 hgg).1 (hn g rfl)]
    exact hgg
/-- the block of an owned slice is there, from base on -/
theorem Own.lt (h : Own w base e c enc v l) {g : Nat} (hg : v.ownBlock = some g) : base ≤ g ∧ g < w.heap.size := World.ownsRow.lt h g hg
/-- its value, written out -/
theorem Own.form (h : Own w base e c enc v l) : ∃ A n cap, v = .slice A n cap ∧ Hid (n = l.length) ∧ n ≤ cap ∧ cap ≤ maxLen := by
  rcases h.2 with ⟨rfl, hn⟩ | ⟨g, cap, cur, rfl, _, _, h1, h2, _⟩
  · exact ⟨none, 0, 0, rfl, hn.symm, Nat.le_refl _, by simp [maxLen]⟩
  · exact ⟨_, _, cap, rfl, rfl, h1, h2⟩
theorem Own.sls {A : Option Addr} {n cap : Nat} (he : ∀ x, (enc x).length = c) (h : Own w base e c enc (.slice A n cap) l) : Sl w w.heap.size c enc A l := by
  obtain ⟨A2, c2, hv, hsl, _⟩ := h.sl he
  injection hv with hA _ _
  subst hA
  exact hsl
theorem Own.len {A : Option Addr} {n cap : Nat} (h : Own w base e c enc (.slice A n cap) l) : n = l.length := by
  obtain ⟨A2, n2, c2, hv, hn, _⟩ := h.form
  injection hv with _ hn2 _
  exact hn2.trans hn
/-- its block, whole -/
theorem Own.row (h : Own w base e c enc v l) {g : Nat} (hg : v.ownBlock = some g) : ∃ cap cur, v = .slice (some ⟨g, 0, none⟩) l.length cap ∧ w.heap[g]? = some (.cells cur e (0, 0)) ∧ l.length ≤ cap ∧ cap ≤ maxLen ∧ cur.toList.take (l.length * c) = l.flatMap enc := by
  rcases h.2 with ⟨rfl, _⟩ | ⟨g', cap, cur, rfl, _, hh, h1, h2, _, h3⟩
  · cases hg
  · have : g' = g := by simpa [Value.ownBlock] using hg
    subst this
    exact ⟨cap, cur, rfl, hh, h1, h2, h3⟩
end

/-- block g is just the cells cs, of element type t -/
def Blk (w : World) (g : Nat) (t : TypeId) (cs : Array Value) : Prop := w.heap[g]? = some (.cells cs t (0, 0))
section
variable {w w' : World} {g : Nat} {t : TypeId} {cs : Array Value}
theorem Blk.lt (h : Blk w g t cs) : g < w.heap.size := (Array.getElem?_eq_some_iff.1 h).1
theorem Blk.cell (h : Blk w g t cs) (i : Nat) : w.cell? ⟨g, i, none⟩ = cs[i]? := cell_of_row w g i cs t (0, 0) h
theorem Blk.free (h : Blk w g t cs) (i : Nat) : w.frozen? ⟨g, i, none⟩ = false := frozen_of_row w g i cs t h
theorem Blk.new (w : World) (t : TypeId) (cs : Array Value) : Blk (w.alloc (.cells cs t)) w.heap.size t cs := heap_alloc_new w _
theorem Blk.drew (h : Blk w g t cs) : Blk w.drew g t cs := h
theorem Blk.drewN (h : Blk w g t cs) (n : Nat) : Blk (w.drewN n) g t cs := h
theorem Blk.alloc (h : Blk w g t cs) (o : Obj) : Blk (w.alloc o) g t cs := (Below.heap_alloc w o g h.lt).trans h
theorem Blk.set_ (h : Blk w g t cs) (i : Nat) (u : Value) : Blk (w.setCell ⟨g, i, none⟩ u) g t (cs.setIfInBounds i u) := heap_setCell_same w g i cs t u h
theorem Blk.far (h : Blk w g t cs) {p : Addr} (hp : g ≠ p.block) (u : Value) : Blk (w.setCell p u) g t cs := (Below.heap_setCell w p u g hp).trans h
theorem Blk.chg {S : Nat → Prop} (h : Blk w g t cs) (hc : Chg S w w') (hn : ¬ S g) : Blk w' g t cs := (hc.block g h.lt hn).trans h
theorem Blk.ext (h : Blk w g t cs) (hb : Below w.heap.size w w') : Blk w' g t cs := (hb.block g h.lt).trans h
theorem Blk.apart {g' : Nat} {t' : TypeId} {cs' : Array Value} (h : Blk w g t cs) (h' : Blk w g' t' cs') (hne : t ≠ t') : g ≠ g' := by
  rintro rfl
  have e : some (Obj.cells cs t (0, 0)) = some (.cells cs' t' (0, 0)) := (Eq.symm h).trans h'
  injection e with e
  injection e with _ ht
  exact hne ht
theorem Own.apart {α : Type} {enc : α → List Value} {base : Nat} {e : TypeId} {c : Nat} {v : Value} {l : List α} (h : Own w base e c enc v l) (hg : Blk w g t cs) (hne : e ≠ t) : v.ownBlock ≠ some g := by
  intro he
  obtain ⟨cap, cur, _, hh, _⟩ := h.row he
  exact Blk.apart (t := e) hh hg hne rfl
end

/-- n cells of kind k lie at A, in a block of element type e that may be written -/
def CellsAt (w : World) (e : TypeId) (k : IntKind) (A : Option Addr) (n : Nat) : Prop :=
  n = 0 ∨ ∃ g cur, A = some ⟨g, 0, none⟩ ∧ Blk w g e cur ∧ ∀ j, j < n → ∃ z, cur[j]? = some (.int k z)
theorem CellsAt.chg {w w' : World} {e : TypeId} {k : IntKind} {A : Option Addr} {n : Nat} {S : Nat → Prop} (h : CellsAt w e k A n) (hc : Chg S w w') (hn : ∀ g, blockOf A = some g → ¬ S g) : CellsAt w' e k A n := by
  rcases h with h | ⟨g, cur, rfl, hb, hz⟩
  · exact .inl h
  · exact .inr ⟨g, cur, rfl, hb.chg hc (hn g rfl), hz⟩
theorem CellsAt.set_ {w : World} {e : TypeId} {k : IntKind} {g n : Nat} (h : CellsAt w e k (some ⟨g, 0, none⟩) n) (i : Nat) (z : Int) : CellsAt (w.setCell ⟨g, i, none⟩ (.int k z)) e k (some ⟨g, 0, none⟩) n := by
  rcases h with h | ⟨g', cur, hA, hb, hz⟩
  · exact .inl h
  · injection hA with hA
    injection hA with hg _ _
    subst hg
    refine .inr ⟨g, _, rfl, hb.set_ i _, fun j hj => ?_⟩
    obtain ⟨y, hy⟩ := hz j hj
    by_cases hij : i = j
    · subst hij
      exact ⟨z, by rw [Array.getElem?_setIfInBounds_self_of_lt]; exact (Array.getElem?_eq_some_iff.1 hy).1⟩
    · exact ⟨y, by rw [Array.getElem?_setIfInBounds_ne hij]; exact hy⟩
theorem CellsAt.of_own {w : World} {base : Nat} {e : TypeId} {k : IntKind} {α : Type} {f : α → Int} {A : Option Addr} {cap : Nat} {l : List α} (h : Own w base e 1 (fun x => [.int k (f x)]) (.slice A l.length cap) l) : CellsAt w e k A l.length := by
  rcases A with _ | a
  · rcases h.2 with ⟨_, h2⟩ | ⟨g, cap', cur, h1, _⟩
    · exact .inl h2
    · cases h1
  · right
    obtain ⟨cap', cur, hv, hh, h1, h2, h3⟩ := h.row (g := a.block) rfl
    injection hv with hA _ _
    refine ⟨a.block, cur, hA, hh, fun j hj => ?_⟩
    have hx : l[j]? = some l[j] := List.getElem?_eq_getElem hj
    have hf := flat_at (enc := fun x => [Value.int k (f x)]) (c := 1) (fun _ => rfl) l j 0 _ hx (by omega)
    rw [← h3, List.getElem?_take_of_lt (by omega)] at hf
    simp only [Nat.mul_one, Nat.add_zero, Array.getElem?_toList] at hf
    exact ⟨_, hf⟩

/-- bytes -/
def encB (b : UInt8) : List Value := [.int .u8 (b.toNat : Int)]
abbrev BySl (w : World) (B : Nat) (A : Option Addr) (l : List UInt8) : Prop := Sl w B 1 encB A l
theorem encB_len (b : UInt8) : (encB b).length = 1 := rfl
theorem encB_one (b : UInt8) : ∀ u ∈ encB b, u.oneCell' = true := by simp [encB, Value.oneCell']
theorem BySl.at_ {w : World} {B : Nat} {A : Option Addr} {l : List UInt8} (h : BySl w B A l) {k : Nat} {b : UInt8} (hx : l[k]? = some b) :
    ∃ g off, A = some ⟨g, off, none⟩ ∧ g < B ∧ w.cell? ⟨g, off + k, none⟩ = some (.int .u8 (b.toNat : Int)) := by
  obtain ⟨g, off, e, hb, hc⟩ := Sl.at_ h hx
  exact ⟨g, off, e, hb, by simpa using hc 0 _ rfl⟩
end Go.Proofs.Ytiljpbncfofnhaa
