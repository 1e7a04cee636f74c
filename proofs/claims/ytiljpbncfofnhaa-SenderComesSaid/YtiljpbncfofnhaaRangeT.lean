/- A range over a function whose iterator turns just the blocks T0 (its captured variables), and whose rounds may turn all else. -/
import Derived.Test.YtiljpbncfofnhaaRange
namespace Go.Proofs.Ytiljpbncfofnhaa
open Go.RowKit
set_option linter.unusedVariables false
set_option linter.unusedSimpArgs false

/-- what is said of a world and holds on whatever becomes of the blocks T -/
def FirmT {β : Type} (T : Nat → Prop) (J : β → World → Prop) : Prop := ∀ s W W', J s W → Chg T W W' → J s W'

/-- The iterator gf, with what it has captured lb, gives the elements X; it turns no block but those of T0; a round's body turns none of R0. -/
def IterT {α : Type} (n : Nat) (P : Program) (gf : Nat) (lb : Array Value) (encs : α → Array Value) (X : List α) (T0 R0 : Nat → Prop) (w : World) : Prop :=
  ∀ (l : Nat) (J Jx : List α → World → Prop) (W : World), Below w.heap.size w W → w.heap.size ≤ l → l < W.heap.size → FirmT T0 J → FirmT T0 Jx →
    (∀ pre x W1, J pre W1 → (pre ++ [x]) <+: X → W.heap.size ≤ W1.heap.size → YieldAt wide (n - 1) P l (encs x) W1 fun e W' =>
      (e = .returned (.bool true) ∧ J (pre ++ [x]) W' ∧ Chg (fun k => ¬ R0 k) W1 W') ∨ (e = .returned (.bool false) ∧ Jx (pre ++ [x]) W')) →
    J [] W → CallsIn wide n P gf (#[.func (.yield l) #[] #[]] ++ lb) W fun e W' => (∃ v, e = .returned v) ∧ (J X W' ∨ ∃ pre, Jx pre W')

/-- how a round's body may be left -/
def roundEndT {α : Type} (S : Nat → Prop) (I : List α → World → Prop) (Ix : Code → List α → World → Prop) (xs : List α) (W : World) : Exit → Act → World → Prop
  | .normal, _, W' => Chg S W W' ∧ I xs W'
  | .ret, _, W' => Chg S W W' ∧ Ix .ret xs W'
  | .exit id, _, W' => Chg S W W' ∧ Ix (.exit id) xs W'
  | .goto t, _, W' => Chg S W W' ∧ Ix (.goto t) xs W'
  | .panic _, _, _ => False
  | .outgrown, _, _ => False

theorem wpIn_rangeT {α : Type} {n : Nat} {P : Program} {g : Operand} {ps : Array Tmp} {assign body : Code} {Q : Exit → Act → World → Prop} {a : Act} {w : World} {gf : Nat} {lb : Array Value}
    (hg : a.eval g = .func (.func gf) #[] lb) (eg : ∀ args w, (callFunc gf args).run P w = .ok (.enter gf args) w)
    {encs : α → Array Value} (hps : ∀ x, (encs x).size = ps.size) (X : List α) (T0 R0 : Nat → Prop) (hT0 : ∀ k, T0 k → k < w.heap.size) (hR0 : ∀ k, R0 k → k < w.heap.size) (hit : IterT (n - 1) P gf lb encs X T0 R0 w)
    (I : List α → World → Prop) (Ix : Code → List α → World → Prop) (hI : FirmT (fun k => T0 k ∨ k = w.heap.size ∨ k = w.heap.size + 1) I) (hIx : ∀ c, FirmT (fun k => T0 k ∨ k = w.heap.size ∨ k = w.heap.size + 1) (Ix c)) (h0 : I [] w) (a₁ : α → Act)
    (hassign : ∀ (l : Nat) (x : α) (W : World) (K : Act → World → Prop), K (a₁ x) W →
      assign.wpIn (wide.inRound l) (n - 1 - 1) P (Exit.then K (fun _ _ _ => False)) { tmps := (ps.zip (encs x)).foldl (fun t (p, v) => t.setIfInBounds p v) a.tmps, defers := [] } W)
    (hbody : ∀ (l : Nat) (pre : List α) (x : α) (W : World), I pre W → (pre ++ [x]) <+: X → w.heap.size + 2 ≤ W.heap.size → body.wpIn (wide.inRound l) (n - 1 - 1) P (roundEndT (fun k => ¬ R0 k ∧ k ≠ w.heap.size ∧ k ≠ w.heap.size + 1) I Ix (pre ++ [x]) W) (a₁ x) W)
    (hdone : ∀ (W : World), I X W → W.heap[w.heap.size]? = some (.deferred (some [])) → Q .normal { a with defers := { target := .collected w.heap.size, args := #[] } :: a.defers } W)
    (hstop : ∀ (c : Code) (pre : List α) (W : World), Ix c pre W → W.heap[w.heap.size]? = some (.deferred (some [])) → c.wpIn wide n P Q { a with defers := { target := .collected w.heap.size, args := #[] } :: a.defers } W) :
    (Code.rangeFunc g ps assign body).wpIn wide n P Q a w := by
  refine wpIn_rangeFunc ?_
  intro fn hfn
  obtain ⟨rec, hrec⟩ : ∃ rec : LoopState → Option Code → Loop, rec = fun st pe => { state := st, pending := pe, fn, tmps := a.tmps, params := ps, assign, body, defers := w.heap.size } := ⟨_, rfl⟩
  obtain ⟨W1, hW1⟩ : ∃ W1, (w.alloc (.deferred (some []))).alloc (.loop (rec .ready none)) = W1 := ⟨_, rfl⟩
  have hs1 : W1.heap.size = w.heap.size + 2 := by rw [← hW1]; simp
  have hL1 : W1.heap[w.heap.size + 1]? = some (.loop (rec .ready none)) := by
    rw [← hW1]; have := World.alloc_heap_new (w.alloc (.deferred (some []))) (.loop (rec .ready none)); rwa [World.size_alloc] at this
  have hK1 : W1.heap[w.heap.size]? = some (.deferred (some [])) := by
    rw [← hW1]; exact (Below.heap_alloc _ _ _ (by simp)).trans (World.alloc_heap_new w _)
  have hb1 : Below w.heap.size w W1 := by
    rw [← hW1]; exact ((Below.refl _ w).alloc (Nat.le_refl _) _).alloc (by simp) _
  have hI1 : I [] W1 := hI [] w W1 h0 (Chg.of_below hb1 (fun i hi h => by omega))
  have put : ∀ {pre : List α} {W : World} (o : Obj), I pre W → I pre (W.putObj (w.heap.size + 1) o) := fun o h => hI _ _ _ h ((Chg.refl _ _).putObj (fun _ => .inr (.inr rfl)) o)
  have putx : ∀ {c : Code} {pre : List α} {W : World} (o : Obj), Ix c pre W → Ix c pre (W.putObj (w.heap.size + 1) o) := fun o h => hIx _ _ _ _ h ((Chg.refl _ _).putObj (fun _ => .inr (.inr rfl)) o)
  refine ⟨w.heap.size + 1, [{ target := .collected w.heap.size, args := #[] }], W1, { target := .fn (.func gf) lb, args := #[.func (.yield (w.heap.size + 1)) #[] #[]] }, W1, gf,
    #[.func (.yield (w.heap.size + 1)) #[] #[]] ++ lb, W1, ?_, ?_, fun _ _ => trivial, ?_, (fun h => by cases h), ?_⟩
  · rw [← hW1, hrec]; exact run_enterLoop_outer _ _ _ _ _
  · simp only [resolve, hg]
    simp [go_sem]
  · simp [invoke, go_sem, eg]
  · refine (hit (w.heap.size + 1)
      (fun pre W => I pre W ∧ W.heap[w.heap.size + 1]? = some (.loop (rec .ready none)) ∧ W.heap[w.heap.size]? = some (.deferred (some [])) ∧ w.heap.size + 2 ≤ W.heap.size)
      (fun pre W => ∃ c, Ix c pre W ∧ W.heap[w.heap.size + 1]? = some (.loop (rec .done (some c))) ∧ W.heap[w.heap.size]? = some (.deferred (some [])) ∧ w.heap.size + 2 ≤ W.heap.size)
      W1 hb1 (Nat.le_succ _) (by omega)
      (fun s A B hs hc => ⟨hI s A B hs.1 (hc.mono (fun i _ h => .inl h)), (hc.block _ (by omega) (fun h => by have := hT0 _ h; omega)).trans hs.2.1, (hc.block _ (by omega) (fun h => by have := hT0 _ h; omega)).trans hs.2.2.1, Nat.le_trans hs.2.2.2 hc.size⟩)
      (fun s A B ⟨c, h1, h2, h3, h4⟩ hc => ⟨c, hIx c s A B h1 (hc.mono (fun i _ h => .inl h)), (hc.block _ (by omega) (fun h => by have := hT0 _ h; omega)).trans h2, (hc.block _ (by omega) (fun h => by have := hT0 _ h; omega)).trans h3, Nat.le_trans h4 hc.size⟩)
      ?_ ⟨hI1, hL1, hK1, by omega⟩).mono ?_
    · rintro pre x W ⟨hi, hl, hk, hsz⟩ hpre hlen
      have hlt : w.heap.size + 1 < W.heap.size := by omega
      have hy := run_yield (P := P) (args := encs x) hl (by rw [hrec]; exact hps x)
      rw [hrec] at hy
      refine ⟨fn, _, assign, body, hy, roundIn_of_wpIn hfn (hassign _ x W _ ⟨_, run_beginRound hl (by rw [hrec]), ?_⟩)⟩
      have hl2 : (W.putObj (w.heap.size + 1) (.loop { rec .ready none with state := .busy })).heap[w.heap.size + 1]? = some (.loop { rec .ready none with state := .busy }) := World.putObj_heap_same hlt
      have hk2 : (W.putObj (w.heap.size + 1) (.loop { rec .ready none with state := .busy })).heap[w.heap.size]? = some (.deferred (some [])) := (World.putObj_heap_other (by omega)).trans hk
      have hno : ∀ k, k = w.heap.size + 1 → ¬ R0 k := fun k hk h => by have := hR0 _ h; omega
      have hw2 : Chg (fun k => ¬ R0 k) W (W.putObj (w.heap.size + 1) (.loop { rec .ready none with state := .busy })) := (Chg.refl _ _).putObj (fun _ => hno _ rfl) _
      refine wpIn_mono (hbody _ pre x _ (put _ hi) hpre (by simp; omega)) ?_
      have fin : ∀ (jump : Option Code) (W3 : World), Chg (fun k => ¬ R0 k ∧ k ≠ w.heap.size ∧ k ≠ w.heap.size + 1) (W.putObj (w.heap.size + 1) (.loop { rec .ready none with state := .busy })) W3 →
          (Instr.endRound (w.heap.size + 1) jump).run P W3 = .ok (.bool jump.isNone) (W3.putObj (w.heap.size + 1) (.loop (rec (if jump.isNone then .ready else .done) jump))) ∧
          (W3.putObj (w.heap.size + 1) (.loop (rec (if jump.isNone then .ready else .done) jump))).heap[w.heap.size + 1]? = some (.loop (rec (if jump.isNone then .ready else .done) jump)) ∧
          (W3.putObj (w.heap.size + 1) (.loop (rec (if jump.isNone then .ready else .done) jump))).heap[w.heap.size]? = some (.deferred (some [])) ∧
          w.heap.size + 2 ≤ (W3.putObj (w.heap.size + 1) (.loop (rec (if jump.isNone then .ready else .done) jump))).heap.size := fun jump W3 hk3 => by
        have hsz3 := hk3.size
        simp only [World.putObj_size] at hsz3
        have hl3 := (hk3.block _ (by simp; omega) (fun h => h.2.2 rfl)).trans hl2
        have hk3' := (hk3.block _ (by simp; omega) (fun h => h.2.1 rfl)).trans hk2
        have := run_endRound (P := P) jump hl3
        rw [hrec] at this ⊢
        exact ⟨this, World.putObj_heap_same (by omega), (World.putObj_heap_other (by omega)).trans hk3', by simp; omega⟩
      rintro e a3 W3 hp
      cases e with
      | normal =>
        obtain ⟨hk3, hi3⟩ := hp
        obtain ⟨hr, hl4, hk4, hs4⟩ := fin none W3 hk3
        exact ⟨_, _, hr, .inl ⟨rfl, ⟨put _ hi3, hl4, hk4, hs4⟩, (hw2.trans (hk3.mono (T := fun k => ¬ R0 k) (fun _ _ h => h.1)) (fun _ _ h => h)).putObj (fun _ => hno _ rfl) _⟩⟩
      | ret =>
        obtain ⟨hk3, hi3⟩ := hp
        obtain ⟨hr, hl4, hk4, hs4⟩ := fin (some .ret) W3 hk3
        exact ⟨_, _, hr, .inr ⟨rfl, .ret, putx _ hi3, hl4, hk4, hs4⟩⟩
      | exit id =>
        obtain ⟨hk3, hi3⟩ := hp
        obtain ⟨hr, hl4, hk4, hs4⟩ := fin (some (.exit id)) W3 hk3
        exact ⟨_, _, hr, .inr ⟨rfl, .exit id, putx _ hi3, hl4, hk4, hs4⟩⟩
      | goto t =>
        obtain ⟨hk3, hi3⟩ := hp
        obtain ⟨hr, hl4, hk4, hs4⟩ := fin (some (.goto t)) W3 hk3
        exact ⟨_, _, hr, .inr ⟨rfl, .goto t, putx _ hi3, hl4, hk4, hs4⟩⟩
      | panic ch => exact hp.elim
      | outgrown => exact hp.elim
    · rintro e W2 ⟨⟨v, rfl⟩, (⟨hi, hl, hk, hsz⟩ | ⟨pre, c, hi, hl, hk, hsz⟩)⟩
      · exact ⟨none, _, by have := run_endLoop (P := P) hl (by rw [hrec]; simp); rw [hrec] at this; exact this, hdone _ (put _ hi) ((World.putObj_heap_other (by omega)).trans hk)⟩
      · exact ⟨some c, _, by have := run_endLoop (P := P) hl (by rw [hrec]; simp); rw [hrec] at this; exact this, hstop c pre _ (putx _ hi) ((World.putObj_heap_other (by omega)).trans hk)⟩
end Go.Proofs.Ytiljpbncfofnhaa
