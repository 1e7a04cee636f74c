/- frag: a whole fragment stored into a slice that is owned. -/
import Derived.Test.YtiljpbncfofnhaaFragB
import Derived.Test.YtiljpbncfofnhaaFoot
import Derived.Deep.MidRow
import Derived.Outline
import Derived.BigQuiet
import Derived.Deep.QuietTactic
import Derived.Deep.RegionWith
import Derived.Deep.RegionHeld3
import Derived.Deep.DrawnRows
import Derived.Deep.LoopGhost
import Derived.Deep.DeepCutAuto
import Derived.Laws.EntriesVeiled
namespace Go.Proofs.Ytiljpbncfofnhaa.FForm
open Go.RowKit Go.ChangeShapes Go.WideShapes Go.ChangeAt
set_option linter.unusedVariables false
set_option linter.unusedSimpArgs false
attribute [local go_sem ↓] Go.wp_at_zero Go.wp_at_succ
open FragA FragB

theorem put_fr {w : World} {e : TypeId} {g off n cap : Nat} {l : List Fr} {k : Nat} {f : Fr} (h : OwnA w e 8 Fr.cells (.slice (some ⟨g, off, none⟩) n cap) l) (hx : l[k]? = some f) (f' : Fr) : OwnA (w.setCells g (off + k * 8) f'.cells) e 8 Fr.cells (.slice (some ⟨g, off, none⟩) n cap) (l.set k f') := by
  obtain ⟨a, b, c, d, i, p, q, t⟩ := f
  obtain ⟨a', b', c', d', i', p', q', t'⟩ := f'
  have hk := (List.getElem?_eq_some_iff.1 hx).1
  have hs : ∀ y : Fr, (l.set k y)[k]? = some y := fun y => List.getElem?_set_self hk
  have s0 := OwnA.store Fr.cells_len h (k := k) (j := 0) (x := ⟨a, b, c, d, i, p, q, t⟩) (x' := ⟨a', b, c, d, i, p, q, t⟩) (u := .int .i64 a') hx (by decide) rfl
  have s1 := OwnA.store Fr.cells_len s0 (k := k) (j := 1) (x := ⟨a', b, c, d, i, p, q, t⟩) (x' := ⟨a', b', c, d, i, p, q, t⟩) (u := .int .i64 b') (hs _) (by decide) rfl
  rw [List.set_set] at s1
  have s2 := OwnA.store Fr.cells_len s1 (k := k) (j := 2) (x := ⟨a', b', c, d, i, p, q, t⟩) (x' := ⟨a', b', c', d, i, p, q, t⟩) (u := .int .i64 c') (hs _) (by decide) rfl
  rw [List.set_set] at s2
  have s3 := OwnA.store Fr.cells_len s2 (k := k) (j := 3) (x := ⟨a', b', c', d, i, p, q, t⟩) (x' := ⟨a', b', c', d', i, p, q, t⟩) (u := .int .i64 d') (hs _) (by decide) rfl
  rw [List.set_set] at s3
  have s4 := OwnA.store Fr.cells_len s3 (k := k) (j := 4) (x := ⟨a', b', c', d', i, p, q, t⟩) (x' := ⟨a', b', c', d', i', p, q, t⟩) (u := .int .i64 i') (hs _) (by decide) rfl
  rw [List.set_set] at s4
  have s5 := OwnA.store Fr.cells_len s4 (k := k) (j := 5) (x := ⟨a', b', c', d', i', p, q, t⟩) (x' := ⟨a', b', c', d', i', p', q, t⟩) (u := .int .i64 p') (hs _) (by decide) rfl
  rw [List.set_set] at s5
  have s6 := OwnA.store Fr.cells_len s5 (k := k) (j := 6) (x := ⟨a', b', c', d', i', p', q, t⟩) (x' := ⟨a', b', c', d', i', p', q', t⟩) (u := .int .i64 q') (hs _) (by decide) rfl
  rw [List.set_set] at s6
  have s7 := OwnA.store Fr.cells_len s6 (k := k) (j := 7) (x := ⟨a', b', c', d', i', p', q', t⟩) (x' := ⟨a', b', c', d', i', p', q', t'⟩) (u := .string t') (hs _) (by decide) rfl
  rw [List.set_set] at s7
  exact s7
theorem there_fr {w : World} {e : TypeId} {g off n cap : Nat} {l : List Fr} {k : Nat} (h : OwnA w e 8 Fr.cells (.slice (some ⟨g, off, none⟩) n cap) l) (hk : k < l.length) : w.there g (off + k * 8) 8 := by
  obtain ⟨off', cap', cur, hv, hrow, _⟩ := h.row (g := g) rfl
  intro j hj
  refine ⟨?_, frozen_of_row w g _ cur _ hrow⟩
  have hs := (h.sl Fr.cells_len).at_ (List.getElem?_eq_getElem hk)
  obtain ⟨g2, off2, hA2, _, hc⟩ := hs
  obtain ⟨rfl, rfl⟩ : g = g2 ∧ off = off2 := by injection hA2 with h; injection h with h1 h2; exact ⟨h1, h2⟩
  have hl : j < (l[k]).cells.length := by rw [Fr.cells_len]; exact hj
  rw [hc j _ (List.getElem?_eq_getElem hl)]
  rfl
theorem chg_setCells {S : Nat → Prop} {a : World} {b : Nat} (hS : b < a.heap.size → S b) : ∀ (vs : List Value) (o : Nat) (w : World), Chg S a w → Chg S a (w.setCells b o vs)
  | [], _, _, h => h
  | v :: r, o, w, h => by
    rw [World.setCells]
    exact chg_setCells hS r (o + 1) _ (h.setCell (p := ⟨b, o, none⟩) hS v)
theorem frSize (f : Fr) : (Try.prog.info? 67).map (·.size) = some (#[.int .i64 f.node, .int .i64 f.part, .int .i64 f.depth, .int .i64 f.x, .int .i64 f.y, .int .i64 f.w, .int .i64 f.h, .string f.text] : Array Value).size := by kernel_rfl
theorem wpList_store_fr {ops : Array Oper} {rest : List Oper} {op : Oper} {a : Act} {w : World} {Q : Exit → Act → World → Prop} (hgd : op.guard = none) (x y : Operand) (ho : op.op = .store 67 x y)
    {g off n cap : Nat} {l : List Fr} {k : Nat} {f : Fr} (f' : Fr) (hx : a.eval x = .pointer (some ⟨g, off + k * 8, none⟩)) (hy : a.eval y = f'.agg) (hown : OwnA w 67 8 Fr.cells (.slice (some ⟨g, off, none⟩) n cap) l) (hf : l[k]? = some f)
    (h : ∀ w', OwnA w' 67 8 Fr.cells (.slice (some ⟨g, off, none⟩) n cap) (l.set k f') → Chg (fun i => i = g) w w' → wpList Try.prog ops Q rest (a.put op.dst undef) w') : wpList Try.prog ops Q (op :: rest) a w :=
  wpList_store_mid hgd 67 x y ho g (off + k * 8) _ hx hy (there_fr hown (List.getElem?_eq_some_iff.1 hf).1) (frSize f') (by simp [Value.oneCell'])
    (h _ (put_fr hown hf f') (chg_setCells (S := fun i => i = g) (fun _ => rfl) _ _ _ (Chg.refl _ _)))
theorem wp_store_fr {op : Oper} {a : Act} {w : World} {K : Act → World → Prop} {Q : Exit → Act → World → Prop} (x y : Operand) (ho : op.op = .store 67 x y)
    {g off n cap : Nat} {l : List Fr} {k : Nat} {f : Fr} (f' : Fr) (hx : a.eval x = .pointer (some ⟨g, off + k * 8, none⟩)) (hy : a.eval y = f'.agg) (hown : OwnA w 67 8 Fr.cells (.slice (some ⟨g, off, none⟩) n cap) l) (hf : l[k]? = some f)
    (h : ∀ w', OwnA w' 67 8 Fr.cells (.slice (some ⟨g, off, none⟩) n cap) (l.set k f') → Chg (fun i => i = g) w w' → K (a.put op.dst undef) w') : op.wp Try.prog a w K Q :=
  wp_store_mid 67 x y ho g (off + k * 8) _ hx hy (there_fr hown (List.getElem?_eq_some_iff.1 hf).1) (frSize f') (by simp [Value.oneCell'])
    (h _ (put_fr hown hf f') (chg_setCells (S := fun i => i = g) (fun _ => rfl) _ _ _ (Chg.refl _ _)))
/-- what make makes -/
theorem made_flat {α : Type} {enc : α → List Value} {c : Nat} (he : ∀ x, (enc x).length = c) (hc : 0 < c) (x : α) (z : Value) (hz : z.cells.toList = enc x) (n : Nat) : (madeCells z.cells (n * c)).toList = (List.replicate n x).flatMap enc := by
  have hzs : z.cells.size = c := by rw [← he x, ← hz]; simp
  apply List.ext_getElem?
  intro j
  by_cases hj : j < n * c
  · have hk : j / c < n := (Nat.div_lt_iff_lt_mul hc).2 hj
    have hm : j % c < c := Nat.mod_lt _ hc
    have e : j = j / c * c + j % c := by rw [Nat.mul_comm]; exact (Nat.div_add_mod j c).symm
    have h1 := flat_at he (List.replicate n x) (j / c) (j % c) x (by rw [List.getElem?_replicate, if_pos hk]) hm
    rw [← e] at h1
    rw [h1, ← hz]
    simp [madeCells, hj, hzs, Nat.mod_lt _ hc]
  · rw [List.getElem?_eq_none (by simp [size_madeCells]; omega), List.getElem?_eq_none (by rw [flat_length he]; simp; omega)]
def fr0 : Fr := ⟨0, 0, 0, 0, 0, 0, 0, ByteArray.empty⟩
theorem own_made {w : World} {base : Nat} {v : Value} {n : Nat} (h : w.ownsRow base 67 8 v n (madeCells (Value.agg #[.int .i64 0, .int .i64 0, .int .i64 0, .int .i64 0, .int .i64 0, .int .i64 0, .int .i64 0, .string ByteArray.empty]).cells (n * 8)).toList) : OwnA w 67 8 Fr.cells v (List.replicate n fr0) := by
  refine OwnA.of_own (base := base) ?_
  unfold Own
  rw [List.length_replicate, ← made_flat Fr.cells_len (by decide) fr0 (Value.agg #[.int .i64 0, .int .i64 0, .int .i64 0, .int .i64 0, .int .i64 0, .int .i64 0, .int .i64 0, .string ByteArray.empty]) (by rfl) n]
  exact h
end Go.Proofs.Ytiljpbncfofnhaa.FForm
