/- A range over a function whose iterator keeps memory of its own (a map, a slice that it appends to): the caller says which blocks of its own a round's body may turn, the iterator turns none that lay before it began.
A range over a function whose iterator turns just the blocks T0 (its captured variables), and whose rounds may turn all else.
bytes.Clone, slices.Clone: a slice of the call's own that reads as what came.
bytes: the document's Same and Copy (windowpaneref02). -/
import Derived.Test.YtoneechcclndaaaBase
import Derived.RangeFuncNested
import Derived.RangeFuncBound
import Derived.RangeFuncCalls
import Derived.RangeFuncLeaves
import Derived.Shelf.Abstract
import Derived.OwnWalkIn
import Derived.Test.YtoneechcclndaaaRows
import Derived.Lib.SliceRun
import Derived.WalkSpells
import Derived.Outline
import Derived.BigQuiet
import Derived.Deep.QuietTactic
import Derived.Deep.RegionWith
import Derived.Deep.RegionHeld3
import Derived.Deep.DrawnRows
import Derived.Deep.LoopGhost
import Derived.Deep.DeepCutAuto
import Derived.Laws.EntriesVeiled
namespace Go.Proofs.Ytoneechcclndaaa
open Go.RowKit
set_option linter.unusedVariables false
set_option linter.unusedSimpArgs false

theorem Chg.putObj {S : Nat → Prop} {a w : World} (h : Chg S a w) {r : Nat} (hr : r < a.heap.size → S r) (o : Obj) : Chg S a (w.putObj r o) :=
  ⟨h.os, h.tape, h.output, by simpa using h.size, fun i hi hn => (World.putObj_heap_other (by rintro rfl; exact hn (hr hi))).trans (h.block i hi hn)⟩

/-- what is said of a world and holds on whatever becomes of the blocks from B on -/
def Firm {β : Type} (B : Nat) (J : β → World → Prop) : Prop := ∀ s W W', J s W → Chg (fun k => B ≤ k) W W' → J s W'

abbrev wide : Fence := Fence.wide

/-- The iterator gf, with what it has captured lb, gives the elements X; a round's body turns no block but those of S0. -/
def Iter {α : Type} (n : Nat) (P : Program) (gf : Nat) (lb : Array Value) (encs : α → Array Value) (X : List α) (S0 : Nat → Prop) (w : World) : Prop :=
  ∀ (l : Nat) (J Jx : List α → World → Prop) (W : World), Below w.heap.size w W → w.heap.size ≤ l → l < W.heap.size → Firm W.heap.size J → Firm W.heap.size Jx →
    (∀ pre x W1, J pre W1 → (pre ++ [x]) <+: X → W.heap.size ≤ W1.heap.size → YieldAt wide (n - 1) P l (encs x) W1 fun e W' =>
      (e = .returned (.bool true) ∧ J (pre ++ [x]) W' ∧ Chg (fun k => S0 k ∨ k = l) W1 W') ∨ (e = .returned (.bool false) ∧ Jx (pre ++ [x]) W')) →
    J [] W → CallsIn wide n P gf (#[.func (.yield l) #[] #[]] ++ lb) W fun e W' => (∃ v, e = .returned v) ∧ (J X W' ∨ ∃ pre, Jx pre W')

/-- how a round's body may be left -/
def roundEnd {α : Type} (S0 : Nat → Prop) (I : List α → World → Prop) (Ix : Code → List α → World → Prop) (xs : List α) (W : World) : Exit → Act → World → Prop
  | .normal, _, W' => Chg S0 W W' ∧ I xs W'
  | .ret, _, W' => Chg S0 W W' ∧ Ix .ret xs W'
  | .exit id, _, W' => Chg S0 W W' ∧ Ix (.exit id) xs W'
  | .goto t, _, W' => Chg S0 W W' ∧ Ix (.goto t) xs W'
  | .panic _, _, _ => False
  | .outgrown, _, _ => False

theorem wpIn_range {α : Type} {n : Nat} {P : Program} {g : Operand} {ps : Array Tmp} {assign body : Code} {Q : Exit → Act → World → Prop} {a : Act} {w : World} {gf : Nat} {lb : Array Value}
    (hg : a.eval g = .func (.func gf) #[] lb) (eg : ∀ args w, (callFunc gf args).run P w = .ok (.enter gf args) w)
    {encs : α → Array Value} (hps : ∀ x, (encs x).size = ps.size) (X : List α) (S0 : Nat → Prop) (hS0 : ∀ k, S0 k → k < w.heap.size) (hit : Iter (n - 1) P gf lb encs X S0 w)
    (I : List α → World → Prop) (Ix : Code → List α → World → Prop) (hI : Firm w.heap.size I) (hIx : ∀ c, Firm w.heap.size (Ix c)) (h0 : I [] w) (a₁ : α → Act)
    (hassign : ∀ (l : Nat) (x : α) (W : World) (K : Act → World → Prop), K (a₁ x) W →
      assign.wpIn (wide.inRound l) (n - 1 - 1) P (Exit.then K (fun _ _ _ => False)) { tmps := (ps.zip (encs x)).foldl (fun t (p, v) => t.setIfInBounds p v) a.tmps, defers := [] } W)
    (hbody : ∀ (l : Nat) (pre : List α) (x : α) (W : World), I pre W → (pre ++ [x]) <+: X → w.heap.size ≤ W.heap.size → body.wpIn (wide.inRound l) (n - 1 - 1) P (roundEnd S0 I Ix (pre ++ [x]) W) (a₁ x) W)
    (hdone : ∀ (D : Nat) (W : World), w.heap.size ≤ D → I X W → W.heap[D]? = some (.deferred (some [])) → Q .normal { a with defers := { target := .collected D, args := #[] } :: a.defers } W)
    (hstop : ∀ (D : Nat) (c : Code) (pre : List α) (W : World), w.heap.size ≤ D → Ix c pre W → W.heap[D]? = some (.deferred (some [])) → c.wpIn wide n P Q { a with defers := { target := .collected D, args := #[] } :: a.defers } W) :
    (Code.rangeFunc g ps assign body).wpIn wide n P Q a w := by
  refine wpIn_rangeFunc ?_
  intro fn hfn
  obtain ⟨rec, hrec⟩ : ∃ rec : LoopState → Option Code → Loop, rec = fun st pe => { state := st, pending := pe, fn, tmps := a.tmps, params := ps, assign, body, defers := w.heap.size } := ⟨_, rfl⟩
  obtain ⟨W1, hW1⟩ : ∃ W1, (w.alloc (.deferred (some []))).alloc (.loop (rec .ready none)) = W1 := ⟨_, rfl⟩
  have hs1 : W1.heap.size = w.heap.size + 2 := by rw [← hW1]; simp
  have hL1 : W1.heap[w.heap.size + 1]? = some (.loop (rec .ready none)) := by
    rw [← hW1]; have := World.alloc_heap_new (w.alloc (.deferred (some []))) (.loop (rec .ready none)); rwa [World.size_alloc] at this
  have hK1 : W1.heap[w.heap.size]? = some (.deferred (some [])) := by
    rw [← hW1]; exact (Below.heap_alloc _ _ _ (by simp)).trans (World.alloc_heap_new w _)
  have hb1 : Below w.heap.size w W1 := by
    rw [← hW1]; exact ((Below.refl _ w).alloc (Nat.le_refl _) _).alloc (by simp) _
  have hI1 : I [] W1 := hI [] w W1 h0 (Chg.of_below hb1 (fun i _ h => h))
  have put : ∀ {pre : List α} {W : World} (o : Obj), I pre W → I pre (W.putObj (w.heap.size + 1) o) := fun o h => hI _ _ _ h ((Chg.refl _ _).putObj (fun _ => Nat.le_succ _) o)
  have putx : ∀ {c : Code} {pre : List α} {W : World} (o : Obj), Ix c pre W → Ix c pre (W.putObj (w.heap.size + 1) o) := fun o h => hIx _ _ _ _ h ((Chg.refl _ _).putObj (fun _ => Nat.le_succ _) o)
  refine ⟨w.heap.size + 1, [{ target := .collected w.heap.size, args := #[] }], W1, { target := .fn (.func gf) lb, args := #[.func (.yield (w.heap.size + 1)) #[] #[]] }, W1, gf,
    #[.func (.yield (w.heap.size + 1)) #[] #[]] ++ lb, W1, ?_, ?_, fun _ _ => trivial, ?_, (fun h => by cases h), ?_⟩
  · rw [← hW1, hrec]; exact run_enterLoop_outer _ _ _ _ _
  · simp only [resolve, hg]
    simp [go_sem]
  · simp [invoke, go_sem, eg]
  · refine (hit (w.heap.size + 1)
      (fun pre W => I pre W ∧ W.heap[w.heap.size + 1]? = some (.loop (rec .ready none)) ∧ W.heap[w.heap.size]? = some (.deferred (some [])) ∧ w.heap.size + 2 ≤ W.heap.size)
      (fun pre W => ∃ c, Ix c pre W ∧ W.heap[w.heap.size + 1]? = some (.loop (rec .done (some c))) ∧ W.heap[w.heap.size]? = some (.deferred (some [])) ∧ w.heap.size + 2 ≤ W.heap.size)
      W1 hb1 (Nat.le_succ _) (by omega)
      (fun s A B hs hc => ⟨hI s A B hs.1 (hc.mono (fun i _ h => by omega)), (hc.block _ (by omega) (by omega)).trans hs.2.1, (hc.block _ (by omega) (by omega)).trans hs.2.2.1, Nat.le_trans hs.2.2.2 hc.size⟩)
      (fun s A B ⟨c, h1, h2, h3, h4⟩ hc => ⟨c, hIx c s A B h1 (hc.mono (fun i _ h => by omega)), (hc.block _ (by omega) (by omega)).trans h2, (hc.block _ (by omega) (by omega)).trans h3, Nat.le_trans h4 hc.size⟩)
      ?_ ⟨hI1, hL1, hK1, by omega⟩).mono ?_
    · rintro pre x W ⟨hi, hl, hk, hsz⟩ hpre hlen
      have hlt : w.heap.size + 1 < W.heap.size := by omega
      have hy := run_yield (P := P) (args := encs x) hl (by rw [hrec]; exact hps x)
      rw [hrec] at hy
      refine ⟨fn, _, assign, body, hy, roundIn_of_wpIn hfn (hassign _ x W _ ⟨_, run_beginRound hl (by rw [hrec]), ?_⟩)⟩
      have hl2 : (W.putObj (w.heap.size + 1) (.loop { rec .ready none with state := .busy })).heap[w.heap.size + 1]? = some (.loop { rec .ready none with state := .busy }) := World.putObj_heap_same hlt
      have hk2 : (W.putObj (w.heap.size + 1) (.loop { rec .ready none with state := .busy })).heap[w.heap.size]? = some (.deferred (some [])) := (World.putObj_heap_other (by omega)).trans hk
      have hw2 : Chg (fun k => S0 k ∨ k = w.heap.size + 1) W (W.putObj (w.heap.size + 1) (.loop { rec .ready none with state := .busy })) := (Chg.refl _ _).putObj (fun _ => .inr rfl) _
      refine wpIn_mono (hbody _ pre x _ (put _ hi) hpre (by simp; omega)) ?_
      have fin : ∀ (jump : Option Code) (W3 : World), Chg S0 (W.putObj (w.heap.size + 1) (.loop { rec .ready none with state := .busy })) W3 →
          (Instr.endRound (w.heap.size + 1) jump).run P W3 = .ok (.bool jump.isNone) (W3.putObj (w.heap.size + 1) (.loop (rec (if jump.isNone then .ready else .done) jump))) ∧
          (W3.putObj (w.heap.size + 1) (.loop (rec (if jump.isNone then .ready else .done) jump))).heap[w.heap.size + 1]? = some (.loop (rec (if jump.isNone then .ready else .done) jump)) ∧
          (W3.putObj (w.heap.size + 1) (.loop (rec (if jump.isNone then .ready else .done) jump))).heap[w.heap.size]? = some (.deferred (some [])) ∧
          w.heap.size + 2 ≤ (W3.putObj (w.heap.size + 1) (.loop (rec (if jump.isNone then .ready else .done) jump))).heap.size := fun jump W3 hk3 => by
        have hsz3 := hk3.size
        simp only [World.putObj_size] at hsz3
        have hl3 := (hk3.block _ (by simp; omega) (fun h => by have := hS0 _ h; omega)).trans hl2
        have hk3' := (hk3.block _ (by simp; omega) (fun h => by have := hS0 _ h; omega)).trans hk2
        have := run_endRound (P := P) jump hl3
        rw [hrec] at this ⊢
        exact ⟨this, World.putObj_heap_same (by omega), (World.putObj_heap_other (by omega)).trans hk3', by simp; omega⟩
      rintro e a3 W3 hp
      cases e with
      | normal =>
        obtain ⟨hk3, hi3⟩ := hp
        obtain ⟨hr, hl4, hk4, hs4⟩ := fin none W3 hk3
        exact ⟨_, _, hr, .inl ⟨rfl, ⟨put _ hi3, hl4, hk4, hs4⟩, (hw2.trans (hk3.mono (T := fun k => S0 k ∨ k = w.heap.size + 1) (fun _ _ h => .inl h)) (fun _ _ h => h)).putObj (fun _ => .inr rfl) _⟩⟩
      | ret =>
        obtain ⟨hk3, hi3⟩ := hp
        obtain ⟨hr, hl4, hk4, hs4⟩ := fin (some .ret) W3 hk3
        exact ⟨_, _, hr, .inr ⟨rfl, .ret, putx _ hi3, hl4, hk4, hs4⟩⟩
      | exit id =>
        obtain ⟨hk3, hi3⟩ := hp
        obtain ⟨hr, hl4, hk4, hs4⟩ := fin (some (.exit id)) W3 hk3
        exact ⟨_, _, hr, .inr ⟨rfl, .exit id, putx _ hi3, hl4, hk4, hs4⟩⟩
      | goto t =>
        obtain ⟨hk3, hi3⟩ := hp
        obtain ⟨hr, hl4, hk4, hs4⟩ := fin (some (.goto t)) W3 hk3
        exact ⟨_, _, hr, .inr ⟨rfl, .goto t, putx _ hi3, hl4, hk4, hs4⟩⟩
      | panic ch => exact hp.elim
      | outgrown => exact hp.elim
    · rintro e W2 ⟨⟨v, rfl⟩, (⟨hi, hl, hk, hsz⟩ | ⟨pre, c, hi, hl, hk, hsz⟩)⟩
      · exact ⟨none, _, by have := run_endLoop (P := P) hl (by rw [hrec]; simp); rw [hrec] at this; exact this, hdone _ _ (Nat.le_refl _) (put _ hi) ((World.putObj_heap_other (by omega)).trans hk)⟩
      · exact ⟨some c, _, by have := run_endLoop (P := P) hl (by rw [hrec]; simp); rw [hrec] at this; exact this, hstop _ c pre _ (Nat.le_refl _) (putx _ hi) ((World.putObj_heap_other (by omega)).trans hk)⟩

/-- append(v, xs...) in a fence -/
theorem wpListIn_append_sl {α : Type} {enc : α → List Value} {F : Fence} {n : Nat} {P : Program} (w : World) {ops : Array Oper} {rest : List Oper} {o : Oper} {a : Act} {Q : Exit → Act → World → Prop}
    (hgd : o.guard = none) (s x : Operand) (t : TypeId) (ho : o.op = .call { callee := .builtin .append, args := #[s, x], argTypes := #[t, t] })
    (base : Nat) (e : TypeId) (i : TypeInfo) (z : Value) (size bytes : Nat) (ht : P.underlying t = some (.slice e)) (hi : P.info? e = some i) (hz : i.zero = some z)
    (hsize : i.size = size) (hby : i.bytes = bytes) (hzs : z.cells.size = size) (hsz : 0 < size) (he : ∀ x, (enc x).length = size) (h1 : ∀ x, ∀ u ∈ enc x, u.oneCell' = true)
    (v : Value) (l : List α) (hs : a.eval s = v) (hown : Own w base e size enc v l) (B : Nat) (A : Option Addr) (m : List α) (k c : Nat) (hx : a.eval x = .slice A k c) (hn : k = m.length) (hr : Sl w B size enc A m)
    (h63 : l.length + m.length ≤ maxLen) (hbytes : (l.length + m.length) * bytes ≤ 140737488355328) (hbase : base ≤ w.heap.size)
    (h : ∀ v' w', Own w' base e size enc v' (l ++ m) → w.grownBy w' v.ownBlock → (v'.ownBlock = v.ownBlock ∨ v'.ownBlock = some w.heap.size) → wpListIn F n P ops Q rest (a.put o.dst v') w') : wpListIn F n P ops Q (o :: rest) a w := by
  refine wpListIn_plain hgd fun K hK' => ?_
  subst hn
  obtain ⟨v', w', hrun, h2, h3, h4⟩ := run_append_sl (P := P) w base t o.type e i z size bytes ht hi hz hsize hby hzs hsz he h1 v l hown B A m c hr h63 hbytes hbase
  unfold Oper.wpIn
  refine ⟨?_, ?_⟩
  · simp [Oper.about, ho, resolve, Target.leads, Sem.run_pure]
  · rw [Oper.semAt_plain F _ _ (by rw [ho]; intro c hc'; cases hc')]
    simp [execOp, ho, resolve, invoke, builtin, hs, hx, hrun, Result.andThen]
    exact hK' _ _ (h v' w' h2 h3 h4)
end Go.Proofs.Ytoneechcclndaaa

namespace Go.Proofs.Ytoneechcclndaaa
open Go.RowKit
set_option linter.unusedVariables false
set_option linter.unusedSimpArgs false

/-- what is said of a world and holds on whatever becomes of the blocks T -/
def FirmT {β : Type} (T : Nat → Prop) (J : β → World → Prop) : Prop := ∀ s W W', J s W → Chg T W W' → J s W'

/-- The iterator gf, with what it has captured lb, gives the elements X; it turns no block but those of T0; a round's body turns none of R0. -/
def IterT {α : Type} (n : Nat) (P : Program) (gf : Nat) (lb : Array Value) (encs : α → Array Value) (X : List α) (T0 R0 : Nat → Prop) (w : World) : Prop :=
  ∀ (l : Nat) (J Jx : List α → World → Prop) (W : World), Below w.heap.size w W → w.heap.size ≤ l → l < W.heap.size → FirmT T0 J → FirmT T0 Jx →
    (∀ pre x W1, J pre W1 → (pre ++ [x]) <+: X → W.heap.size ≤ W1.heap.size → YieldAt wide (n - 1) P l (encs x) W1 fun e W' =>
      (e = .returned (.bool true) ∧ J (pre ++ [x]) W' ∧ Chg (fun k => ¬ R0 k) W1 W') ∨ (e = .returned (.bool false) ∧ Jx (pre ++ [x]) W')) →
    J [] W → CallsIn wide n P gf (#[.func (.yield l) #[] #[]] ++ lb) W fun e W' => (∃ v, e = .returned v) ∧ (J X W' ∨ ∃ pre, Jx pre W')

/-- how a round's body may be left -/
def roundEndT {α : Type} (S : Nat → Prop) (I : List α → World → Prop) (Ix : Code → List α → World → Prop) (xs : List α) (W : World) : Exit → Act → World → Prop
  | .normal, _, W' => Chg S W W' ∧ I xs W'
  | .ret, _, W' => Chg S W W' ∧ Ix .ret xs W'
  | .exit id, _, W' => Chg S W W' ∧ Ix (.exit id) xs W'
  | .goto t, _, W' => Chg S W W' ∧ Ix (.goto t) xs W'
  | .panic _, _, _ => False
  | .outgrown, _, _ => False

theorem wpIn_rangeT {α : Type} {n : Nat} {P : Program} {g : Operand} {ps : Array Tmp} {assign body : Code} {Q : Exit → Act → World → Prop} {a : Act} {w : World} {gf : Nat} {lb : Array Value}
    (hg : a.eval g = .func (.func gf) #[] lb) (eg : ∀ args w, (callFunc gf args).run P w = .ok (.enter gf args) w)
    {encs : α → Array Value} (hps : ∀ x, (encs x).size = ps.size) (X : List α) (T0 R0 : Nat → Prop) (hT0 : ∀ k, T0 k → k < w.heap.size) (hR0 : ∀ k, R0 k → k < w.heap.size) (hit : IterT (n - 1) P gf lb encs X T0 R0 w)
    (I : List α → World → Prop) (Ix : Code → List α → World → Prop) (hI : FirmT (fun k => T0 k ∨ k = w.heap.size ∨ k = w.heap.size + 1) I) (hIx : ∀ c, FirmT (fun k => T0 k ∨ k = w.heap.size ∨ k = w.heap.size + 1) (Ix c)) (h0 : I [] w) (a₁ : α → Act)
    (hassign : ∀ (l : Nat) (x : α) (W : World) (K : Act → World → Prop), K (a₁ x) W →
      assign.wpIn (wide.inRound l) (n - 1 - 1) P (Exit.then K (fun _ _ _ => False)) { tmps := (ps.zip (encs x)).foldl (fun t (p, v) => t.setIfInBounds p v) a.tmps, defers := [] } W)
    (hbody : ∀ (l : Nat) (pre : List α) (x : α) (W : World), I pre W → (pre ++ [x]) <+: X → w.heap.size + 2 ≤ W.heap.size → body.wpIn (wide.inRound l) (n - 1 - 1) P (roundEndT (fun k => ¬ R0 k ∧ k ≠ w.heap.size ∧ k ≠ w.heap.size + 1) I Ix (pre ++ [x]) W) (a₁ x) W)
    (hdone : ∀ (W : World), I X W → W.heap[w.heap.size]? = some (.deferred (some [])) → Q .normal { a with defers := { target := .collected w.heap.size, args := #[] } :: a.defers } W)
    (hstop : ∀ (c : Code) (pre : List α) (W : World), Ix c pre W → W.heap[w.heap.size]? = some (.deferred (some [])) → c.wpIn wide n P Q { a with defers := { target := .collected w.heap.size, args := #[] } :: a.defers } W) :
    (Code.rangeFunc g ps assign body).wpIn wide n P Q a w := by
  refine wpIn_rangeFunc ?_
  intro fn hfn
  obtain ⟨rec, hrec⟩ : ∃ rec : LoopState → Option Code → Loop, rec = fun st pe => { state := st, pending := pe, fn, tmps := a.tmps, params := ps, assign, body, defers := w.heap.size } := ⟨_, rfl⟩
  obtain ⟨W1, hW1⟩ : ∃ W1, (w.alloc (.deferred (some []))).alloc (.loop (rec .ready none)) = W1 := ⟨_, rfl⟩
  have hs1 : W1.heap.size = w.heap.size + 2 := by rw [← hW1]; simp
  have hL1 : W1.heap[w.heap.size + 1]? = some (.loop (rec .ready none)) := by
    rw [← hW1]; have := World.alloc_heap_new (w.alloc (.deferred (some []))) (.loop (rec .ready none)); rwa [World.size_alloc] at this
  have hK1 : W1.heap[w.heap.size]? = some (.deferred (some [])) := by
    rw [← hW1]; exact (Below.heap_alloc _ _ _ (by simp)).trans (World.alloc_heap_new w _)
  have hb1 : Below w.heap.size w W1 := by
    rw [← hW1]; exact ((Below.refl _ w).alloc (Nat.le_refl _) _).alloc (by simp) _
  have hI1 : I [] W1 := hI [] w W1 h0 (Chg.of_below hb1 (fun i hi h => by omega))
  have put : ∀ {pre : List α} {W : World} (o : Obj), I pre W → I pre (W.putObj (w.heap.size + 1) o) := fun o h => hI _ _ _ h ((Chg.refl _ _).putObj (fun _ => .inr (.inr rfl)) o)
  have putx : ∀ {c : Code} {pre : List α} {W : World} (o : Obj), Ix c pre W → Ix c pre (W.putObj (w.heap.size + 1) o) := fun o h => hIx _ _ _ _ h ((Chg.refl _ _).putObj (fun _ => .inr (.inr rfl)) o)
  refine ⟨w.heap.size + 1, [{ target := .collected w.heap.size, args := #[] }], W1, { target := .fn (.func gf) lb, args := #[.func (.yield (w.heap.size + 1)) #[] #[]] }, W1, gf,
    #[.func (.yield (w.heap.size + 1)) #[] #[]] ++ lb, W1, ?_, ?_, fun _ _ => trivial, ?_, (fun h => by cases h), ?_⟩
  · rw [← hW1, hrec]; exact run_enterLoop_outer _ _ _ _ _
  · simp only [resolve, hg]
    simp [go_sem]
  · simp [invoke, go_sem, eg]
  · refine (hit (w.heap.size + 1)
      (fun pre W => I pre W ∧ W.heap[w.heap.size + 1]? = some (.loop (rec .ready none)) ∧ W.heap[w.heap.size]? = some (.deferred (some [])) ∧ w.heap.size + 2 ≤ W.heap.size)
      (fun pre W => ∃ c, Ix c pre W ∧ W.heap[w.heap.size + 1]? = some (.loop (rec .done (some c))) ∧ W.heap[w.heap.size]? = some (.deferred (some [])) ∧ w.heap.size + 2 ≤ W.heap.size)
      W1 hb1 (Nat.le_succ _) (by omega)
      (fun s A B hs hc => ⟨hI s A B hs.1 (hc.mono (fun i _ h => .inl h)), (hc.block _ (by omega) (fun h => by have := hT0 _ h; omega)).trans hs.2.1, (hc.block _ (by omega) (fun h => by have := hT0 _ h; omega)).trans hs.2.2.1, Nat.le_trans hs.2.2.2 hc.size⟩)
      (fun s A B ⟨c, h1, h2, h3, h4⟩ hc => ⟨c, hIx c s A B h1 (hc.mono (fun i _ h => .inl h)), (hc.block _ (by omega) (fun h => by have := hT0 _ h; omega)).trans h2, (hc.block _ (by omega) (fun h => by have := hT0 _ h; omega)).trans h3, Nat.le_trans h4 hc.size⟩)
      ?_ ⟨hI1, hL1, hK1, by omega⟩).mono ?_
    · rintro pre x W ⟨hi, hl, hk, hsz⟩ hpre hlen
      have hlt : w.heap.size + 1 < W.heap.size := by omega
      have hy := run_yield (P := P) (args := encs x) hl (by rw [hrec]; exact hps x)
      rw [hrec] at hy
      refine ⟨fn, _, assign, body, hy, roundIn_of_wpIn hfn (hassign _ x W _ ⟨_, run_beginRound hl (by rw [hrec]), ?_⟩)⟩
      have hl2 : (W.putObj (w.heap.size + 1) (.loop { rec .ready none with state := .busy })).heap[w.heap.size + 1]? = some (.loop { rec .ready none with state := .busy }) := World.putObj_heap_same hlt
      have hk2 : (W.putObj (w.heap.size + 1) (.loop { rec .ready none with state := .busy })).heap[w.heap.size]? = some (.deferred (some [])) := (World.putObj_heap_other (by omega)).trans hk
      have hno : ∀ k, k = w.heap.size + 1 → ¬ R0 k := fun k hk h => by have := hR0 _ h; omega
      have hw2 : Chg (fun k => ¬ R0 k) W (W.putObj (w.heap.size + 1) (.loop { rec .ready none with state := .busy })) := (Chg.refl _ _).putObj (fun _ => hno _ rfl) _
      refine wpIn_mono (hbody _ pre x _ (put _ hi) hpre (by simp; omega)) ?_
      have fin : ∀ (jump : Option Code) (W3 : World), Chg (fun k => ¬ R0 k ∧ k ≠ w.heap.size ∧ k ≠ w.heap.size + 1) (W.putObj (w.heap.size + 1) (.loop { rec .ready none with state := .busy })) W3 →
          (Instr.endRound (w.heap.size + 1) jump).run P W3 = .ok (.bool jump.isNone) (W3.putObj (w.heap.size + 1) (.loop (rec (if jump.isNone then .ready else .done) jump))) ∧
          (W3.putObj (w.heap.size + 1) (.loop (rec (if jump.isNone then .ready else .done) jump))).heap[w.heap.size + 1]? = some (.loop (rec (if jump.isNone then .ready else .done) jump)) ∧
          (W3.putObj (w.heap.size + 1) (.loop (rec (if jump.isNone then .ready else .done) jump))).heap[w.heap.size]? = some (.deferred (some [])) ∧
          w.heap.size + 2 ≤ (W3.putObj (w.heap.size + 1) (.loop (rec (if jump.isNone then .ready else .done) jump))).heap.size := fun jump W3 hk3 => by
        have hsz3 := hk3.size
        simp only [World.putObj_size] at hsz3
        have hl3 := (hk3.block _ (by simp; omega) (fun h => h.2.2 rfl)).trans hl2
        have hk3' := (hk3.block _ (by simp; omega) (fun h => h.2.1 rfl)).trans hk2
        have := run_endRound (P := P) jump hl3
        rw [hrec] at this ⊢
        exact ⟨this, World.putObj_heap_same (by omega), (World.putObj_heap_other (by omega)).trans hk3', by simp; omega⟩
      rintro e a3 W3 hp
      cases e with
      | normal =>
        obtain ⟨hk3, hi3⟩ := hp
        obtain ⟨hr, hl4, hk4, hs4⟩ := fin none W3 hk3
        exact ⟨_, _, hr, .inl ⟨rfl, ⟨put _ hi3, hl4, hk4, hs4⟩, (hw2.trans (hk3.mono (T := fun k => ¬ R0 k) (fun _ _ h => h.1)) (fun _ _ h => h)).putObj (fun _ => hno _ rfl) _⟩⟩
      | ret =>
        obtain ⟨hk3, hi3⟩ := hp
        obtain ⟨hr, hl4, hk4, hs4⟩ := fin (some .ret) W3 hk3
        exact ⟨_, _, hr, .inr ⟨rfl, .ret, putx _ hi3, hl4, hk4, hs4⟩⟩
      | exit id =>
        obtain ⟨hk3, hi3⟩ := hp
        obtain ⟨hr, hl4, hk4, hs4⟩ := fin (some (.exit id)) W3 hk3
        exact ⟨_, _, hr, .inr ⟨rfl, .exit id, putx _ hi3, hl4, hk4, hs4⟩⟩
      | goto t =>
        obtain ⟨hk3, hi3⟩ := hp
        obtain ⟨hr, hl4, hk4, hs4⟩ := fin (some (.goto t)) W3 hk3
        exact ⟨_, _, hr, .inr ⟨rfl, .goto t, putx _ hi3, hl4, hk4, hs4⟩⟩
      | panic ch => exact hp.elim
      | outgrown => exact hp.elim
    · rintro e W2 ⟨⟨v, rfl⟩, (⟨hi, hl, hk, hsz⟩ | ⟨pre, c, hi, hl, hk, hsz⟩)⟩
      · exact ⟨none, _, by have := run_endLoop (P := P) hl (by rw [hrec]; simp); rw [hrec] at this; exact this, hdone _ (put _ hi) ((World.putObj_heap_other (by omega)).trans hk)⟩
      · exact ⟨some c, _, by have := run_endLoop (P := P) hl (by rw [hrec]; simp); rw [hrec] at this; exact this, hstop c pre _ (putx _ hi) ((World.putObj_heap_other (by omega)).trans hk)⟩
end Go.Proofs.Ytoneechcclndaaa

namespace Go.Proofs.Ytoneechcclndaaa
open Go.RowKit Go.ChangeShapes Go.WideShapes Go.ChangeAt
set_option linter.unusedVariables false
set_option linter.unusedSimpArgs false
attribute [local go_sem ↓] Go.wp_at_zero Go.wp_at_succ

/-- The call hands back a slice in blocks that it made, which reads as l; what was there is as it was. -/
def RetA {α : Type} (w : World) (e : TypeId) (c : Nat) (enc : α → List Value) (l : List α) (r : Ending) (w' : World) : Prop :=
  ∃ v, r = .returned v ∧ OwnA w' e c enc v l ∧ (∀ k, v.ownBlock = some k → w.heap.size ≤ k) ∧ Below w.heap.size w w'

theorem OwnA.fresh0 {α : Type} (w : World) (e : TypeId) (c : Nat) (enc : α → List Value) : OwnA (w.alloc (.cells #[] e)) e c enc (.slice (some ⟨w.heap.size, 0, none⟩) 0 0) ([] : List α) :=
  .inr ⟨w.heap.size, 0, 0, #[], rfl, heap_alloc_new w _, by simp, by simp [maxLen], by simp, by simp⟩

/-- an append onto a slice of no element, made just now -/
theorem RetA.made {α : Type} {w w1 w' : World} {e : TypeId} {c : Nat} {enc : α → List Value} {l : List α} {v v' : Value} (h1 : Below w.heap.size w w1) (hv : ∀ k, v.ownBlock = some k → w.heap.size ≤ k) (h : OwnA w' e c enc v' l)
    (hc : Chg (fun k => v.ownBlock = some k) w1 w') (hat : v'.ownBlock = v.ownBlock ∨ v'.ownBlock = some w1.heap.size) : RetA w e c enc l (.returned v') w' := by
  refine ⟨v', rfl, h, fun k hk => ?_, h1.trans (hc.below h1.size fun i hi hs => by have := hv i hs; omega)⟩
  rcases hat with hat | hat
  · exact hv k (hat ▸ hk)
  · have := h1.size
    rw [hat] at hk; injection hk with hk; omega

theorem OwnA.cast_len {α : Type} {w : World} {e : TypeId} {c : Nat} {enc : α → List Value} {v : Value} {l m : List α} (h : OwnA w e c enc v l) (hm : l = m) : OwnA w e c enc v m := hm ▸ h

theorem bytesCloneInfo : (Try.prog.info? 5).map (fun i => (i.zero, i.size, i.bytes)) = some (some (.int .u8 0), 1, 1) := by kernel_rfl
set_option maxRecDepth 100000 in
theorem bytesClone_any (l : List UInt8) (A : Option Addr) (n cap : Nat) (w : World) (hl : Sl w w.heap.size 1 encB A l) (hm : l.length * 1 ≤ 140737488355328) (hn : Hid (n = l.length)) (hA : A = none → cap = 0) (hnc : n ≤ cap) :
    Calls Try.prog 116 #[.slice A n cap] w (RetA w 5 1 encB l) := by
  obtain ⟨i0, hi, hz, hz1, hz2⟩ := info_parts bytesCloneInfo
  have q := fun w a n c n' c' => Lib.run_eql_slice_nil (P := Try.prog) w 25 5 a n c n' c' Try.underlying25
  rcases A with _ | ad
  · have h0 : cap = 0 := hA rfl
    subst h0
    have hn0 : n = 0 := by omega
    subst hn0
    have hl0 : l = [] := List.eq_nil_of_length_eq_zero hn.out.symm
    subst hl0
    go_enter Try.func116, Try.ntmps116
    go_wp2
    go_ret
    exact ⟨_, rfl, OwnA.nil_ _ _ _ _, (fun k hk => by cases hk), Below.refl _ _⟩
  · have hb0 : Below w.heap.size w (w.alloc (.cells #[] 5)) := (Below.refl _ _).alloc (Nat.le_refl _) _
    have H0 := Lib.hid (OwnA.fresh0 w 5 1 encB)
    have Hl := Lib.hid (Sl.ext hl hb0)
    have a1 : Hid (([] : List UInt8).length + l.length ≤ maxLen) := by rw [Hid]; simp [maxLen]; omega
    have a2 : Hid ((([] : List UInt8).length + l.length) * 1 ≤ 140737488355328) := by rw [Hid]; simp; omega
    clear hl hm
    go_enter Try.func116, Try.ntmps116
    go_wp2_with (at_builtin; refine wpList_append_a _ rfl _ _ _ rfl 5 i0 _ 1 1 Try.underlying25 hi hz hz1 hz2 rfl (by decide) encB_len encB_one _ [] (by rfl) H0.out _ (some ad) l n cap (by rfl) hn.out Hl.out a1.out a2.out ?_; intro v' w' hown' hchg hat)
    go_ret
    exact RetA.made hb0 (fun k hk => by simp [Value.ownBlock] at hk; omega) (hown'.cast_len (by simp)) hchg hat
end Go.Proofs.Ytoneechcclndaaa

namespace Go.Proofs.Ytoneechcclndaaa.Bytes
open Go.RowKit Go.ChangeShapes Go.WideShapes Go.ChangeAt
set_option linter.unusedVariables false
set_option linter.unusedSimpArgs false
attribute [local go_sem ↓] Go.wp_at_zero Go.wp_at_succ

theorem byInfo : (Try.prog.info? 5).map (fun i => (i.zero, i.size, i.bytes)) = some (some (.int .u8 0), 1, 1) := by kernel_rfl

def eqB : List UInt8 → List UInt8 → Bool
  | [], [] => true
  | a :: l, b :: m => ((a.toNat : Int) == (b.toNat : Int)) && eqB l m
  | _, _ => false
theorem u8_eq (a b : UInt8) : (((a.toNat : Int) == (b.toNat : Int)) = true) ↔ a = b := by
  simp only [beq_iff_eq, Int.natCast_inj]
  exact UInt8.toNat_inj
theorem eqB_iff : ∀ l m : List UInt8, eqB l m = true ↔ l = m
  | [], [] => by simp [eqB]
  | a :: l, b :: m => by simp only [eqB, Bool.and_eq_true, u8_eq, eqB_iff l m, List.cons.injEq]
  | [], b :: m => by simp [eqB]
  | a :: l, [] => by simp [eqB]
theorem eqB_self (l : List UInt8) : eqB l l = true := (eqB_iff l l).2 rfl
theorem eqB_len {l m : List UInt8} (h : l.length ≠ m.length) : eqB l m = false := by
  cases he : eqB l m with
  | false => rfl
  | true => exact absurd (congrArg List.length ((eqB_iff l m).1 he)) h

/-- whether bytes are the same; nothing but draws turns the world -/
theorem same_any (l m : List UInt8) (A B : Option Addr) (ca cb : Nat) (w : World) (hl : BySl w w.heap.size A l) (hm : BySl w w.heap.size B m) (h63 : l.length ≤ maxLen) (h63' : m.length ≤ maxLen) :
    Calls Try.prog 20 #[.slice A l.length ca, .slice B m.length cb] w fun e w' => e = .returned (.bool (eqB l m)) ∧ ∃ n, w' = w.drewN n := by
  unfold maxLen at h63 h63'
  by_cases hn : l.length = m.length
  · have hn' : (!((l.length : Int) == (m.length : Int))) = false := by simp [hn]
    have hn2 : ((l.length : Int) == (m.length : Int)) = true := by simp [hn]
    have Hn := Lib.hid hn
    clear hn
    go_enter Try.func20, Try.ntmps20
    go_wp2
    go_loopg [5] l.length (fun g v wr => ∃ j : Nat, l.length ≤ j + g ∧ j ≤ l.length ∧ v = .int .i64 j ∧ Hid (eqB l m = eqB (l.drop j) (m.drop j)) ∧ Hid (∃ n, wr = w.drewN n))
    case atStart => exact ⟨0, by omega, by omega, rfl, rfl, 0, rfl⟩
    case round =>
      obtain ⟨j, hg, hj, rfl, hf, nn, rfl⟩ := hrel
      by_cases hlt : j < l.length
      · have hltm : j < m.length := by rw [← Hn.out]; exact hlt
        obtain ⟨bb, off, rfl, hbb, c0⟩ := BySl.at_ hl (List.getElem?_eq_getElem hlt)
        obtain ⟨bb', off', rfl, hbb', d0⟩ := BySl.at_ hm (List.getElem?_eq_getElem hltm)
        have Hd := Lib.hid (List.drop_eq_getElem_cons hlt)
        have Hd' := Lib.hid (List.drop_eq_getElem_cons hltm)
        have b1 : (0 : Int) ≤ (j : Int) := Int.natCast_nonneg _
        have b2 : (j : Int) < (l.length : Int) := by omega
        have b3 : (j : Int) < (m.length : Int) := by omega
        generalize l[j] = f at *
        generalize m[j] = f' at *
        go_wp2
        go_quiet (fail)
        go_wp2
        · rename_i hne
          go_ret
          exact ⟨ret_bool (by rw [hf.out, Hd.out, Hd'.out, eqB]; simp_all), nn + nq, by first | rfl | exact World.drewN_drewN _ _ _⟩
        · rename_i hne
          go_roundg (gk - 1)
          case measure => omega
          case rel => exact ⟨j + 1, by omega, by omega, by go_num, by rw [Hid, hf.out, Hd.out, Hd'.out, eqB]; simp_all, nn + nq, by first | rfl | exact World.drewN_drewN _ _ _⟩
      · go_wp2
        go_ret
        exact ⟨ret_bool (by rw [hf.out, List.drop_of_length_le (by omega), List.drop_of_length_le (by rw [← Hn.out]; omega)]; rfl), _, rfl⟩
  · have hn' : ((l.length : Int) == (m.length : Int)) = false := by simp; omega
    go_enter Try.func20, Try.ntmps20
    go_wp2
    go_ret
    exact ⟨ret_bool (by rw [eqB_len hn]), 0, rfl⟩

theorem copy_any (l : List UInt8) (A : Option Addr) (n cap : Nat) (w : World) (hl : BySl w w.heap.size A l) (hm : l.length ≤ 140737488355328) (hn : Hid (n = l.length)) :
    Calls Try.prog 27 #[.slice A n cap] w (RetOwn w 5 1 encB l) := by
  obtain ⟨i0, hi, hz, hz1, hz2⟩ := info_parts byInfo
  have hown := Own.nil_ w w.heap.size 5 1 encB
  go_enter Try.func27, Try.ntmps27
  go_wp2_with (at_builtin; refine wpList_append_sl _ rfl _ _ _ rfl w.heap.size 5 i0 _ 1 1 Try.underlying25 hi hz hz1 hz2 rfl (by decide) encB_len encB_one (.slice none 0 0) [] (by rfl) hown _ A l n cap (by rfl) hn.out hl (by simp [maxLen]; omega) (by simp; omega) (Nat.le_refl _) ?_; intro v' w' hown' hgrow hat)
  go_ret
  exact ⟨v', rfl, by simpa using hown', (Below.refl _ _).grown hgrow (Nat.le_refl _) (by intro k h; cases h)⟩
end Go.Proofs.Ytoneechcclndaaa.Bytes
