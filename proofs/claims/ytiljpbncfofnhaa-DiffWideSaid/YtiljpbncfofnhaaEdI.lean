/- edit: what edits make, plainly; each kind by its function. -/
import Derived.Test.YtiljpbncfofnhaaEdH
import Derived.Test.YtiljpbncfofnhaaCheck
import Derived.Outline
import Derived.BigQuiet
import Derived.Deep.QuietTactic
import Derived.Deep.RegionWith
import Derived.Deep.RegionHeld3
import Derived.Deep.DrawnRows
import Derived.Deep.LoopGhost
import Derived.Deep.DeepCutAuto
import Derived.Laws.EntriesVeiled
namespace Go.Proofs.Ytiljpbncfofnhaa.EdF
open Go.RowKit Go.ChangeShapes Go.WideShapes Go.ChangeAt
set_option linter.unusedVariables false
set_option linter.unusedSimpArgs false
attribute [local go_sem ↓] Go.wp_at_zero Go.wp_at_succ
open MayA FragA FragB EdC Tree

/-- what one edit makes, k fragments being taken and out put -/
def stepE (l : List Fr) (e : Ed) (k : Nat) (out : List Fr) : Option (Nat × List Fr) :=
  if e.kind = 0 then (if k + e.n.toNat ≤ l.length then some (k + e.n.toNat, out ++ (l.drop k).take e.n.toNat) else none)
  else if e.kind = 1 then (if k + e.n.toNat ≤ l.length then some (k + e.n.toNat, out) else none)
  else if e.kind = 2 then some (k, out ++ [e.f])
  else if e.kind = 3 then (if findFrom e.node e.part l 0 < 0 then none else match l[(findFrom e.node e.part l 0).toNat]? with
    | some f => some (k, out ++ [f])
    | none => none)
  else match l[k]? with
    | some f => some (k + 1, out ++ [if e.kind = 4 then geoF f e.f else txtF f e.f])
    | none => none
def runE (l : List Fr) : List Ed → Nat × List Fr → Option (Nat × List Fr)
  | [], s => some s
  | e :: r, s => if mayE e then (match stepE l e s.1 s.2 with
    | some s' => runE l r s'
    | none => none) else none
/-- what edits make of fragments, and the error number -/
def applyE (l : List Fr) (es : List Ed) : List Fr × Int :=
  if 4096 < es.length then ([], 4) else if chk l ≠ 0 then ([], 200) else
  match runE l es (0, []) with
  | none => ([], 210)
  | some (k, out) => if k < l.length ∨ chk out ≠ 0 then ([], 210) else (out, 0)

/-- what an edit's function leaves -/
def StepPost (w0 w : World) (g : Nat) (A : Option Addr) (n cap : Nat) (l : List Fr) (s : Option (Nat × List Fr)) (r : Ending) (w' : World) : Prop :=
  r = .returned (.bool s.isSome) ∧ Kept w w' ∧ Below w0.heap.size w0 w' ∧ ∀ k out, s = some (k, out) → LoomIn w0 w' g A n cap l k out
theorem StepPost.yes {w0 w w' : World} {g : Nat} {A : Option Addr} {n cap : Nat} {l : List Fr} {s : Option (Nat × List Fr)} {r : Ending} {k : Nat} {out : List Fr} (hs : s = some (k, out)) (hr : r = .returned (.bool true)) (h : LoomIn w0 w' g A n cap l k out) (hk : Kept w w') : StepPost w0 w g A n cap l s r w' := by
  subst hs
  exact ⟨hr, hk, h.be, fun k' out' e => by cases e; exact h⟩
theorem StepPost.no {w0 w w' : World} {g : Nat} {A : Option Addr} {n cap : Nat} {l : List Fr} {s : Option (Nat × List Fr)} {r : Ending} (hs : s = none) (hr : r = .returned (.bool false)) (h : Below w0.heap.size w0 w') (hk : Kept w w') : StepPost w0 w g A n cap l s r w' := by
  subst hs
  exact ⟨hr, hk, h, fun k' out' e => by cases e⟩
section
variable {w0 w : World} {g : Nat} {A : Option Addr} {n cap : Nat} {l : List Fr} {k : Nat} {out : List Fr}
theorem may_n {e : Ed} (hm : mayE e = true) (hk : e.kind = 0 ∨ e.kind = 1) : 1 ≤ e.n ∧ e.n ≤ 2048 := by
  have hc : countsE e = true := by rcases hk with hk | hk <;> simp [countsE, hk]
  simp only [mayE, hc, Bool.and_eq_true, Bool.not_true, Bool.false_or, decide_eq_true_eq] at hm
  exact hm.2.2.2.2
theorem keep_step (h : LoomIn w0 w g A n cap l k out) (e : Ed) (hm : mayE e = true) (hk : e.kind = 0) (h63 : l.length ≤ 100000000) (hout : out.length ≤ 100000000) (hkl : k ≤ l.length) :
    Calls Try.prog 95 #[.pointer (some ⟨g, 0, none⟩), e.agg] w (StepPost w0 w g A n cap l (stepE l e k out)) := by
  obtain ⟨n1, n2⟩ := may_n hm (.inl hk)
  by_cases hl : k + e.n.toNat ≤ l.length
  · exact (keep_yes h e e.n.toNat (by omega) hl h63 hout).mono fun r w' ⟨hr, h1, h2⟩ => StepPost.yes (by rw [stepE, if_pos hk, if_pos hl]) hr h1 h2
  · exact (keep_no h e (by omega) h63 hout).mono fun r w' ⟨hr, h1, h2⟩ => StepPost.no (by rw [stepE, if_pos hk, if_neg hl]) hr h1 h2
theorem skip_step (h : LoomIn w0 w g A n cap l k out) (e : Ed) (hm : mayE e = true) (hk : e.kind = 1) (h63 : l.length ≤ 100000000) (hkl : k ≤ l.length) :
    Calls Try.prog 96 #[.pointer (some ⟨g, 0, none⟩), e.agg] w (StepPost w0 w g A n cap l (stepE l e k out)) := by
  obtain ⟨n1, n2⟩ := may_n hm (.inr hk)
  by_cases hl : k + e.n.toNat ≤ l.length
  · exact (skip_yes h e e.n.toNat (by omega) hl h63).mono fun r w' ⟨hr, h1, h2⟩ => StepPost.yes (by rw [stepE, if_neg (by omega), if_pos hk, if_pos hl]) hr h1 h2
  · exact (skip_no h e (by omega) h63).mono fun r w' ⟨hr, h1, h2⟩ => StepPost.no (by rw [stepE, if_neg (by omega), if_pos hk, if_neg hl]) hr h1 h2
theorem insert_step (h : LoomIn w0 w g A n cap l k out) (e : Ed) (hk : e.kind = 2) (hout : out.length ≤ 100000000) :
    Calls Try.prog 97 #[.pointer (some ⟨g, 0, none⟩), e.agg] w (StepPost w0 w g A n cap l (stepE l e k out)) :=
  (insert_any h e hout).mono fun r w' ⟨hr, h1, h2⟩ => StepPost.yes (by rw [stepE, if_neg (by omega), if_neg (by omega), if_pos hk]) hr h1 h2
theorem find_at {nd p : Int} : ∀ (l : List Fr) (k : Nat), 0 ≤ findFrom nd p l k → ∃ i f, findFrom nd p l k = ((k + i : Nat) : Int) ∧ l[i]? = some f ∧ f.node = nd ∧ f.part = p
  | [], k, h => by simp [findFrom] at h
  | f :: l, k, h => by
    unfold findFrom at h ⊢
    by_cases hc : (f.node == nd && f.part == p) = true
    · rw [if_pos hc]
      simp at hc
      exact ⟨0, f, by simp, rfl, hc.1, hc.2⟩
    · rw [if_neg hc] at h ⊢
      obtain ⟨i, f', h1, h2, h3⟩ := find_at l (k + 1) h
      exact ⟨i + 1, f', by rw [h1]; congr 1; omega, by simpa using h2, h3⟩
theorem find_neg {nd p : Int} {l : List Fr} (h : findFrom nd p l 0 < 0) : findFrom nd p l 0 = -1 := by
  have : ∀ (l : List Fr) (k : Nat), findFrom nd p l k < 0 → findFrom nd p l k = -1 := by
    intro l
    induction l with
    | nil => intro k _; rfl
    | cons f l ih =>
      intro k h
      unfold findFrom at h ⊢
      split at h
      · omega
      · rename_i hc
        rw [if_neg hc]
        exact ih _ h
  exact this l 0 h
theorem move_step (h : LoomIn w0 w g A n cap l k out) (hA : FrSl w0 w0.heap.size A l) (hn : n = l.length) (e : Ed) (hk : e.kind = 3) (h63 : l.length ≤ 100000000) (hout : out.length ≤ 100000000) :
    Calls Try.prog 98 #[.pointer (some ⟨g, 0, none⟩), e.agg] w (StepPost w0 w g A n cap l (stepE l e k out)) := by
  by_cases hl : findFrom e.node e.part l 0 < 0
  · exact (move_no h hA hn h63 e (find_neg hl)).mono fun r w' ⟨hr, h1, h2⟩ => StepPost.no (by rw [stepE, if_neg (by omega), if_neg (by omega), if_neg (by omega), if_pos hk, if_pos hl]) hr h1 h2
  · obtain ⟨i, f, h1, h2, _⟩ := find_at (nd := e.node) (p := e.part) l 0 (by omega)
    rw [Nat.zero_add] at h1
    exact (move_yes h hA hn h63 e i f h1 h2 hout).mono fun r w' ⟨hr, h3, h4⟩ => StepPost.yes (by rw [stepE, if_neg (by omega), if_neg (by omega), if_neg (by omega), if_pos hk, if_neg hl, h1]; simp only [Int.toNat_natCast, h2]) hr h3 h4
theorem geo_step (h : LoomIn w0 w g A n cap l k out) (e : Ed) (hk : e.kind = 4) (h63 : l.length ≤ 100000000) (hout : out.length ≤ 100000000) :
    Calls Try.prog 99 #[.pointer (some ⟨g, 0, none⟩), e.agg] w (StepPost w0 w g A n cap l (stepE l e k out)) := by
  cases hf : l[k]? with
  | none => exact (geo_no h e (by simpa using hf) h63).mono fun r w' ⟨hr, h1, h2⟩ => StepPost.no (by rw [stepE, if_neg (by omega), if_neg (by omega), if_neg (by omega), if_neg (by omega), hf]) hr h1 h2
  | some f => exact (geo_yes h e f hf h63 hout).mono fun r w' ⟨hr, h1, h2⟩ => StepPost.yes (by rw [stepE, if_neg (by omega), if_neg (by omega), if_neg (by omega), if_neg (by omega), hf]; simp only [if_pos hk]) hr h1 h2
theorem txt_step (h : LoomIn w0 w g A n cap l k out) (e : Ed) (hk : e.kind = 5) (h63 : l.length ≤ 100000000) (hout : out.length ≤ 100000000) :
    Calls Try.prog 100 #[.pointer (some ⟨g, 0, none⟩), e.agg] w (StepPost w0 w g A n cap l (stepE l e k out)) := by
  have h4 : ¬ e.kind = 4 := by omega
  cases hf : l[k]? with
  | none => exact (txt_no h e (by simpa using hf) h63).mono fun r w' ⟨hr, h1, h2⟩ => StepPost.no (by rw [stepE, if_neg (by omega), if_neg (by omega), if_neg (by omega), if_neg (by omega), hf]) hr h1 h2
  | some f => exact (txt_yes h e f hf h63 hout).mono fun r w' ⟨hr, h1, h2⟩ => StepPost.yes (by rw [stepE, if_neg (by omega), if_neg (by omega), if_neg (by omega), if_neg (by omega), hf]; simp only [if_neg h4]) hr h1 h2
end

/-! the plain laws -/
theorem step_facts {l : List Fr} {e : Ed} {k k' : Nat} {out out' : List Fr} (h : stepE l e k out = some (k', out')) (hm : mayE e = true) (hkl : k ≤ l.length) : k' ≤ l.length ∧ out.length ≤ out'.length ∧ out'.length ≤ out.length + 2048 := by
  unfold stepE at h
  split at h
  · rename_i h0
    obtain ⟨n1, n2⟩ := may_n hm (.inl h0)
    split at h
    · cases h
      rw [List.length_append, List.length_take]
      omega
    · cases h
  · split at h
    · split at h
      · cases h; omega
      · cases h
    · split at h
      · cases h; simp; omega
      · split at h
        · split at h
          · cases h
          · split at h
            · cases h; simp; omega
            · cases h
        · split at h
          · rename_i f hf
            cases h
            have := (List.getElem?_eq_some_iff.1 hf).1
            simp; omega
          · cases h
theorem run_len {l : List Fr} : ∀ {es : List Ed} {k k' : Nat} {out out' : List Fr}, runE l es (k, out) = some (k', out') → k ≤ l.length → k' ≤ l.length ∧ out.length ≤ out'.length
  | [], k, k', out, out', h, hk => by cases h; exact ⟨hk, Nat.le_refl _⟩
  | e :: r, k, k', out, out', h, hk => by
    unfold runE at h
    split at h
    · rename_i hm
      cases hs : stepE l e k out with
      | none => rw [hs] at h; cases h
      | some s =>
        obtain ⟨k1, out1⟩ := s
        rw [hs] at h
        obtain ⟨a, b, _⟩ := step_facts hs hm hk
        obtain ⟨c, d⟩ := run_len h a
        exact ⟨c, Nat.le_trans b d⟩
    · cases h
/-- more than may be is no tree: what is put ends in nothing -/
theorem apply_over {l : List Fr} {es : List Ed} {k : Nat} {out : List Fr} (hk : k ≤ l.length) (ho : 2048 < out.length) : (match runE l es (k, out) with
  | none => (([] : List Fr), (210 : Int))
  | some (k, out) => if k < l.length ∨ chk out ≠ 0 then ([], 210) else (out, 0)) = ([], 210) := by
  cases hr : runE l es (k, out) with
  | none => rfl
  | some s =>
    obtain ⟨k', out'⟩ := s
    have := (run_len hr hk).2
    simp only
    rw [if_pos (.inr (by rw [chk, if_pos (by omega)]; decide))]
/-- all its fragments are sound -/
theorem step_wf {l : List Fr} {e : Ed} {k k' : Nat} {out out' : List Fr} (h : stepE l e k out = some (k', out')) (hl : FrsWf l) (he : e.Wf) (ho : FrsWf out) : FrsWf out' := by
  unfold stepE at h
  split at h
  · split at h
    · cases h
      intro f hf
      rcases List.mem_append.1 hf with hf | hf
      · exact ho f hf
      · exact hl f (List.mem_of_mem_drop (List.mem_of_mem_take hf))
    · cases h
  · split at h
    · split at h
      · cases h; exact ho
      · cases h
    · split at h
      · cases h
        intro f hf
        rcases List.mem_append.1 hf with hf | hf
        · exact ho f hf
        · rw [List.mem_singleton.1 hf]; exact he.f
      · split at h
        · split at h
          · cases h
          · split at h
            · rename_i f0 hf0
              cases h
              intro f hf
              rcases List.mem_append.1 hf with hf | hf
              · exact ho f hf
              · rw [List.mem_singleton.1 hf]; exact hl _ (List.mem_of_getElem? hf0)
            · cases h
        · split at h
          · rename_i f0 hf0
            cases h
            have h0 := hl _ (List.mem_of_getElem? hf0)
            intro f hf
            rcases List.mem_append.1 hf with hf | hf
            · exact ho f hf
            · rw [List.mem_singleton.1 hf]
              split
              · exact ⟨h0.node, h0.part, he.f.depth, he.f.x, he.f.y, he.f.w, he.f.h, h0.text⟩
              · exact ⟨h0.node, h0.part, h0.depth, h0.x, h0.y, h0.w, h0.h, he.f.text⟩
          · cases h
end Go.Proofs.Ytiljpbncfofnhaa.EdF
