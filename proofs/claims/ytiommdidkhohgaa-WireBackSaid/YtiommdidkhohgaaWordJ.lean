/- words.Get: what its rounds keep; a slice cut at both ends. -/
import Derived.Test.YtiommdidkhohgaaWordI
import Derived.Outline
import Derived.BigQuiet
import Derived.Deep.QuietTactic
import Derived.Deep.RegionWith
import Derived.Deep.RegionHeld3
import Derived.Deep.DrawnRows
import Derived.Deep.LoopGhost
import Derived.Deep.DeepCutAuto
import Derived.Laws.EntriesVeiled
namespace Go.Proofs.Ytiommdidkhohgaa.Word
open Go.RowKit Go.ChangeShapes Go.WideShapes Go.ChangeAt
set_option linter.unusedVariables false
set_option linter.unusedSimpArgs false
attribute [local go_sem ↓] Go.wp_at_zero Go.wp_at_succ

theorem run_slice_lohi {P : Program} {t e : TypeId} {c : Nat} (ht : P.underlying t = some (.slice e)) (hi : ∃ i, P.info? e = some i) (hc : P.cellsOf e = c) (A : Option Addr) (n cap : Nat) (k m : Int) (h0 : 0 ≤ k) (h1 : k ≤ m) (h2 : m ≤ (cap : Int)) (W : World) :
    (Instr.slice t (.slice A n cap) (some (.int .i64 k)) (some (.int .i64 m)) none).run P W = .ok (.slice (cutA A cap k.toNat c) (m.toNat - k.toNat) (cap - k.toNat)) W := by
  obtain ⟨i, hi⟩ := hi
  subst hc
  have hm : (m.toNat : Int) = m := Int.toNat_of_nonneg (by omega)
  unfold Instr.slice Instr.sliceBounds Instr.sliceBound
  simp only [Sem.run_bind, run_underlying ht, Result.andThen_ok, Sem.run_pure, asIntOf, if_pos (And.intro (show 0 ≤ m by omega) h2), hm, if_pos (And.intro h0 h1), run_sizeOf _ hi]
  rfl

/-- what the rounds of Get keep -/
structure GetI (w : World) (pre : List (Int × UInt8)) (W : World) : Prop where
  r0 : Blk W w.heap.size 31 #[.int .u64 0]
  r1 : Blk W (w.heap.size + 1) 3 #[.int .i64 0]
  r2 : Blk W (w.heap.size + 2) 4 #[.bool false]
  nb : Blk W (w.heap.size + 3) 31 #[.int .u64 (valL (pre.map Prod.snd).reverse : Int)]
  lt : valL (pre.map Prod.snd).reverse < p64
  be : Below w.heap.size w W
/-- how Get is left amid its rounds -/
structure GetX (w : World) (W : World) : Prop where
  r0 : Blk W w.heap.size 31 #[.int .u64 0]
  r1 : Blk W (w.heap.size + 1) 3 #[.int .i64 0]
  r2 : Blk W (w.heap.size + 2) 4 #[.bool false]
  be : Below w.heap.size w W
theorem GetI.chg {w W W' : World} {S : Nat → Prop} {pre : List (Int × UInt8)} (h : GetI w pre W) (hc : Chg S W W') (hn : ∀ k, S k → w.heap.size + 4 ≤ k) : GetI w pre W' :=
  have no : ∀ k, k < w.heap.size + 4 → ¬ S k := fun k hk hs => by have := hn k hs; omega
  ⟨h.r0.chg hc (no _ (by omega)), h.r1.chg hc (no _ (by omega)), h.r2.chg hc (no _ (by omega)), h.nb.chg hc (no _ (by omega)), h.lt, h.be.trans (hc.below h.be.size (fun i hi hs => by have := hn i hs; omega))⟩
theorem GetX.chg {w W W' : World} {S : Nat → Prop} (h : GetX w W) (hc : Chg S W W') (hn : ∀ k, S k → w.heap.size + 4 ≤ k) : GetX w W' :=
  have no : ∀ k, k < w.heap.size + 4 → ¬ S k := fun k hk hs => by have := hn k hs; omega
  ⟨h.r0.chg hc (no _ (by omega)), h.r1.chg hc (no _ (by omega)), h.r2.chg hc (no _ (by omega)), h.be.trans (hc.below h.be.size (fun i hi hs => by have := hn i hs; omega))⟩
theorem GetI.back {a : Act} {w W : World} {pre xs : List (Int × UInt8)} {R0 : Nat → Prop} {D : Nat} {I : List (Int × UInt8) → World → Prop} {p : Prop} (h : GetI w pre W) (hD : w.heap.size + 5 ≤ D) (hR : ∀ k, R0 k → k < w.heap.size ∨ k = w.heap.size + 4) (hR2 : ∀ k, R0 k → k ≠ w.heap.size ∧ k ≠ w.heap.size + 1 ∧ k ≠ w.heap.size + 2) (hp : p) :
    roundEndT (fun k => ¬ R0 k ∧ k ≠ D ∧ k ≠ D + 1) I (fun c _ W => c = .ret ∧ GetX w W ∧ p) xs W .ret a (((W.setCell ⟨w.heap.size, 0, none⟩ (.int .u64 0)).setCell ⟨w.heap.size + 1, 0, none⟩ (.int .i64 0)).setCell ⟨w.heap.size + 1 + 1, 0, none⟩ (.bool false)) := by
  refine ⟨(((Chg.refl _ _).setCell (fun _ => ?_) _).setCell (fun _ => ?_) _).setCell (fun _ => ?_) _, rfl, ⟨((h.r0.set_ 0 _).far (by simp; try omega) _).far (by simp; try omega) _, ((h.r1.far (by simp; try omega) _).set_ 0 _).far (by simp; try omega) _, ((h.r2.far (by simp; try omega) _).far (by simp; try omega) _).set_ 0 _, ((h.be.setCell (by simp; try omega) _).setCell (by simp; try omega) _).setCell (by simp; try omega) _⟩, hp⟩
  · exact ⟨fun hh => (hR2 _ hh).1 rfl, by simp; omega, by simp; omega⟩
  · exact ⟨fun hh => (hR2 _ hh).2.1 rfl, by simp; omega, by simp; omega⟩
  · exact ⟨fun hh => (hR2 _ hh).2.2 rfl, by simp; omega, by simp; omega⟩
theorem GetI.next {a : Act} {w W : World} {pre : List (Int × UInt8)} {j : Int} {d : UInt8} {R0 : Nat → Prop} {D : Nat} {Ix : Code → List (Int × UInt8) → World → Prop} (h : GetI w pre W) (hD : w.heap.size + 5 ≤ D) (hR3 : ∀ k, R0 k → k ≠ w.heap.size + 3)
    {v r : Nat} (hv : v = valL (pre.map Prod.snd).reverse) (hlt : v < 144115188075855872) (hr : r = d.toNat % 128 + 128 * v) :
    roundEndT (fun k => ¬ R0 k ∧ k ≠ D ∧ k ≠ D + 1) (GetI w) Ix (pre ++ [(j, d)]) W .normal a (W.setCell ⟨w.heap.size + 1 + 1 + 1, 0, none⟩ (.int .u64 (r : Int))) := by
  subst hr
  have e : ((pre ++ [(j, d)]).map Prod.snd).reverse = d :: (pre.map Prod.snd).reverse := by simp
  have e2 : valL ((pre ++ [(j, d)]).map Prod.snd).reverse = d.toNat % 128 + 128 * v := by rw [e, valL, hv]
  refine ⟨(Chg.refl _ _).setCell (fun _ => ⟨fun hh => hR3 _ hh rfl, by simp; omega, by simp; omega⟩) _, h.r0.far (by simp; try omega) _, h.r1.far (by simp; try omega) _, h.r2.far (by simp; try omega) _, ?_, ?_, h.be.setCell (by simp; try omega) _⟩
  · rw [e2]; exact h.nb.set_ 0 _
  · rw [e2]
    have := val_under d (pre.map Prod.snd).reverse (by omega)
    rw [valL, ← hv] at this
    exact this
theorem and127 : ∀ d : UInt8, bits .and .u8 (d.toNat : Int) 127 = ((d.toNat % 128 : Nat) : Int) := by
  intro d
  have h : ∀ m : Fin 256, bits .and .u8 (m.val : Int) 127 = ((m.val % 128 : Nat) : Int) := by decide +kernel
  exact h ⟨d.toNat, d.toNat_lt⟩
/-- what Get's result boxes hold in the end -/
structure GetR (w : World) (a : Int) (b : Int) (c : Bool) (W : World) : Prop where
  r0 : Blk W w.heap.size 31 #[.int .u64 a]
  r1 : Blk W (w.heap.size + 1) 3 #[.int .i64 b]
  r2 : Blk W (w.heap.size + 2) 4 #[.bool c]
  be : Below w.heap.size w W
theorem GetR.chg {w W W' : World} {a b : Int} {c : Bool} {S : Nat → Prop} (h : GetR w a b c W) (hc : Chg S W W') (hn : ∀ k, S k → w.heap.size + 3 ≤ k) : GetR w a b c W' :=
  have no : ∀ k, k < w.heap.size + 3 → ¬ S k := fun k hk hs => by have := hn k hs; omega
  ⟨h.r0.chg hc (no _ (by omega)), h.r1.chg hc (no _ (by omega)), h.r2.chg hc (no _ (by omega)), h.be.trans (hc.below h.be.size (fun i hi hs => by have := hn i hs; omega))⟩
theorem GetI.stored {w W : World} {pre : List (Int × UInt8)} (h : GetI w pre W) (a b : Int) (c : Bool) :
    GetR w a b c (((W.setCell ⟨w.heap.size, 0, none⟩ (.int .u64 a)).setCell ⟨w.heap.size + 1, 0, none⟩ (.int .i64 b)).setCell ⟨w.heap.size + 1 + 1, 0, none⟩ (.bool c)) :=
  ⟨((h.r0.set_ 0 _).far (by simp; try omega) _).far (by simp; try omega) _, ((h.r1.far (by simp; try omega) _).set_ 0 _).far (by simp; try omega) _, ((h.r2.far (by simp; try omega) _).far (by simp; try omega) _).set_ 0 _, ((h.be.setCell (by simp; try omega) _).setCell (by simp; try omega) _).setCell (by simp; try omega) _⟩
theorem GetI.stored_heap {w W : World} {D : Nat} {o : Obj} (a b : Int) (c : Bool) (hK : W.heap[D]? = some o) (hD : w.heap.size + 5 ≤ D) :
    (((W.setCell ⟨w.heap.size, 0, none⟩ (.int .u64 a)).setCell ⟨w.heap.size + 1, 0, none⟩ (.int .i64 b)).setCell ⟨w.heap.size + 1 + 1, 0, none⟩ (.bool c)).heap[D]? = some o := by
  have far : ∀ (V : World) (p : Addr) (u : Value), D ≠ p.block → V.heap[D]? = some o → (V.setCell p u).heap[D]? = some o := fun V p u hp hv => (Below.heap_setCell V p u D hp).trans hv
  exact far _ _ _ (by simp; omega) (far _ _ _ (by simp; omega) (far _ _ _ (by simp; omega) hK))
theorem GetX.stored {w W : World} (h : GetX w W) : GetR w 0 0 false W := ⟨h.r0, h.r1, h.r2, h.be⟩
end Go.Proofs.Ytiommdidkhohgaa.Word
