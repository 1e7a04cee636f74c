/- diff: that of a tree and itself keeps all; no edits put fewer anew; its edits are sound; plainly. -/
import Derived.Test.YtiljpbncfofnhaaDfT
namespace Go.Proofs.Ytiljpbncfofnhaa.Dif
open Go.RowKit FragA FragB MayA Tree EdC EdB EdF
set_option linter.unusedVariables false
set_option linter.unusedSimpArgs false

theorem rise_len : ∀ (l : List (Nat × Nat)) (lo hi : Nat), (l.Pairwise fun x y => x.2 < y.2) → (∀ x ∈ l, lo ≤ x.2 ∧ x.2 < hi) → l.length ≤ hi - lo
  | [], _, _, _, _ => by simp
  | x :: l, lo, hi, hp, h => by
    have h0 := h x List.mem_cons_self
    have := rise_len l (x.2 + 1) hi (List.Pairwise.of_cons hp) (fun y hy => by
      have h1 := h y (List.mem_cons_of_mem _ hy)
      have h2 := List.rel_of_pairwise_cons hp hy
      omega)
    simp only [List.length_cons]
    omega
/-- all that keeps j -/
def kept (j : Nat) : List Ed := if j = 0 then [] else [⟨0, (j : Int), 0, 0, Fr.z⟩]
theorem kept_next (j : Nat) : keepD (kept j) = kept (j + 1) := by
  unfold kept
  by_cases h : j = 0
  · subst h; rfl
  · rw [if_neg h, if_neg (by omega), keepD]
    simp
theorem self_go {a : List Fr} : ∀ (r : List Fr) (j : Nat) (st : List (Nat × Nat)), a.drop j = r → j ≤ a.length → st.length = r.length → (st.Pairwise fun x y => x.2 < y.2) → (∀ x ∈ st, j ≤ x.2 ∧ x.2 < j + r.length ∧ x.1 = x.2) → diffGo a r j j st (kept j) = kept a.length
  | [], j, st, hr, hj, hl, _, _ => by
    have hlen := congrArg List.length hr
    simp at hlen
    rw [diffGo, show j = a.length from by omega]
    unfold skipD
    rw [if_neg (by omega)]
  | g :: r, j, [], hr, hj, hl, _, _ => by simp at hl
  | g :: r, j, (i, j') :: st, hr, hj, hl, hp, hv => by
    obtain ⟨v1, v2, v3⟩ := hv (i, j') List.mem_cons_self
    simp only [List.length_cons] at v1 v2 v3 hl
    have hjj : j' = j := by
      by_cases h : j' = j
      · exact h
      · have := rise_len ((i, j') :: st) (j + 1) (j + (r.length + 1)) hp (fun x hx => by
          have h1 := hv x hx
          simp only [List.length_cons] at h1
          rcases List.mem_cons.1 hx with rfl | hx
          · simp only; omega
          · have h2 := List.rel_of_pairwise_cons hp hx
            simp only at h2
            omega)
        simp only [List.length_cons] at this
        omega
    subst v3
    subst hjj
    have hf : a[i]? = some g := by
      have h1 : (a.drop i)[0]? = some g := by rw [hr]; rfl
      rwa [List.getElem?_drop, Nat.add_zero] at h1
    have hi := (List.getElem?_eq_some_iff.1 hf).1
    rw [diffGo_take hf]
    have e1 : skipD (kept i) ((i : Int) - (i : Int)) = kept i := by unfold skipD; rw [if_neg (by omega)]
    rw [e1]
    have e2 : becomeD (kept i) g g = kept (i + 1) := by rw [becomeD, if_pos (Fr.beq_self g)]; exact kept_next i
    rw [e2]
    exact self_go r (i + 1) st (by rw [← List.drop_drop, hr]; rfl) (by omega) (by omega) (List.Pairwise.of_cons hp) (fun x hx => by
      obtain ⟨u1, u2, u3⟩ := hv x (List.mem_cons_of_mem _ hx)
      have h2 := List.rel_of_pairwise_cons hp hx
      simp only [List.length_cons] at u2 h2
      exact ⟨by omega, by omega, u3⟩)
theorem stay_self {a : List Fr} (hk : KeysOwn a) : (stayL a a).length = a.length ∧ ∀ x ∈ stayL a a, x.1 = x.2 := by
  constructor
  · have h1 := stayL_len a a
    have h2 := chain_le (a := a) (b := a) (ps := (List.range a.length).map fun k => (k, k)) (by
      rw [List.pairwise_map]
      exact List.pairwise_lt_range.imp fun h => ⟨h, h⟩) (fun x hx => by
      obtain ⟨k, hk', rfl⟩ := List.mem_map.1 hx
      have hka := List.mem_range.1 hk'
      exact ⟨a[k], List.getElem?_eq_getElem hka, fromL_own hk (List.getElem?_eq_getElem hka) (canB_self _)⟩)
    simp at h2
    omega
  · intro x hx
    obtain ⟨f, g, hf, hg, hc, hkey⟩ := stayL_mem hx
    have h := keyAt_own hk hg rfl rfl
    rw [hkey] at h
    injection h
/-- the difference of a tree and itself -/
theorem diff_self {a : List Fr} (ha : chk a = 0) : diffL a a = [⟨0, (a.length : Int), 0, 0, Fr.z⟩] := by
  obtain ⟨h1, h2⟩ := stay_self (keys_of_chk ha)
  have h := self_go (a := a) a 0 (stayL a a) rfl (Nat.zero_le _) h1 ((stayL_rise a a).imp fun h => h.2) (fun x hx => ⟨Nat.zero_le _, by have := stayL_at x hx; omega, h2 x hx⟩)
  have hne : a.length ≠ 0 := by
    have := (FCheck.chk_zero ha).2.1
    intro h
    exact this (List.eq_nil_of_length_eq_zero h)
  have h' : diffL a a = kept a.length := h
  rw [h', kept, if_neg hne]

/-! ### no edits put fewer -/
theorem canB_geo (f g : Fr) : canB f (geoF f g) = true := by simp [canB, geoF]
theorem canB_txt (f g : Fr) : canB f (txtF f g) = true := by simp [canB, txtF]
theorem few_chain {a : List Fr} : ∀ (n : Nat) (es : List Ed) (k : Nat) (out : List Fr), es.length = n → runE a es (0, []) = some (k, out) →
    ∃ ps : List (Nat × Nat), (ps.Pairwise fun x y => x.1 < y.1 ∧ x.2 < y.2) ∧ (∀ x ∈ ps, x.1 < k ∧ x.2 < out.length ∧ ∃ f g, a[x.1]? = some f ∧ out[x.2]? = some g ∧ canB f g = true) ∧ putsE es + ps.length = out.length := by
  intro n
  induction n with
  | zero =>
    intro es k out hn h
    have : es = [] := List.eq_nil_of_length_eq_zero hn
    subst this
    cases h
    exact ⟨[], by simp, by simp, rfl⟩
  | succ n ih =>
    intro es k' out' hn h
    rcases List.eq_nil_or_concat es with rfl | ⟨d, e, rfl⟩
    · simp at hn
    · rw [List.concat_eq_append] at h hn ⊢
      obtain ⟨k, out, h1, h2, h3⟩ := run_unsnoc h
      obtain ⟨ps, p1, p2, p3⟩ := ih d k out (by simpa using hn) h1
      rw [puts_snoc]
      have old : ∀ (ys : List Fr) (m : Nat), k ≤ m → ∀ x ∈ ps, x.1 < m ∧ x.2 < (out ++ ys).length ∧ ∃ f g, a[x.1]? = some f ∧ (out ++ ys)[x.2]? = some g ∧ canB f g = true := fun ys m hm x hx => by
        obtain ⟨u1, u2, f, g, hf, hg, hc⟩ := p2 x hx
        exact ⟨by omega, by rw [List.length_append]; omega, f, g, hf, by rw [List.getElem?_append_left u2]; exact hg, hc⟩
      unfold stepE at h3
      by_cases k0 : e.kind = 0
      · rw [if_pos k0] at h3
        split at h3
        · rename_i hle
          injection h3 with h3
          injection h3 with h4 h5
          subst h4
          subst h5
          have hnot : (e.kind == 2 || e.kind == 3) = false := by simp [k0]
          rw [hnot]
          refine ⟨ps ++ (List.range e.n.toNat).map fun t => (k + t, out.length + t), ?_, ?_, ?_⟩
          · rw [List.pairwise_append]
            refine ⟨p1, ?_, ?_⟩
            · rw [List.pairwise_map]
              exact List.pairwise_lt_range.imp fun h => ⟨by simp only; omega, by simp only; omega⟩
            · intro x hx y hy
              obtain ⟨t, ht, rfl⟩ := List.mem_map.1 hy
              obtain ⟨u1, u2, _⟩ := p2 x hx
              simp only
              omega
          · intro x hx
            rcases List.mem_append.1 hx with hx | hx
            · exact old _ _ (by omega) x hx
            · obtain ⟨t, ht, rfl⟩ := List.mem_map.1 hx
              have ht' := List.mem_range.1 ht
              have hkt : k + t < a.length := by omega
              refine ⟨by simp only; omega, by simp only [List.length_append, List.length_take, List.length_drop]; omega, a[k + t], a[k + t], List.getElem?_eq_getElem hkt, ?_, canB_self _⟩
              simp only
              rw [List.getElem?_append_right (by omega), show out.length + t - out.length = t from by omega, List.getElem?_take_of_lt ht', List.getElem?_drop]
              exact List.getElem?_eq_getElem hkt
          · simp only [List.length_append, List.length_map, List.length_range, List.length_take, List.length_drop]
            simp
            omega
        · cases h3
      · rw [if_neg k0] at h3
        by_cases k1 : e.kind = 1
        · rw [if_pos k1] at h3
          split at h3
          · injection h3 with h3
            injection h3 with h4 h5
            subst h4
            subst h5
            have hnot : (e.kind == 2 || e.kind == 3) = false := by simp [k1]
            rw [hnot]
            refine ⟨ps, p1, ?_, by simpa using p3⟩
            have := old [] (k + e.n.toNat) (by omega)
            simpa using this
          · cases h3
        · rw [if_neg k1] at h3
          by_cases k2 : e.kind = 2
          · rw [if_pos k2] at h3
            injection h3 with h3
            injection h3 with h4 h5
            subst h4
            subst h5
            refine ⟨ps, p1, old _ _ (Nat.le_refl _), ?_⟩
            simp [k2]
            omega
          · rw [if_neg k2] at h3
            by_cases k3 : e.kind = 3
            · rw [if_pos k3] at h3
              split at h3
              · cases h3
              · split at h3
                · injection h3 with h3
                  injection h3 with h4 h5
                  subst h4
                  subst h5
                  refine ⟨ps, p1, old _ _ (Nat.le_refl _), ?_⟩
                  simp [k3]
                  omega
                · cases h3
            · rw [if_neg k3] at h3
              split at h3
              · rename_i f hf
                injection h3 with h3
                injection h3 with h4 h5
                subst h4
                subst h5
                have hnot : (e.kind == 2 || e.kind == 3) = false := by simp [k2, k3]
                rw [hnot]
                refine ⟨ps ++ [(k, out.length)], ?_, ?_, ?_⟩
                · rw [List.pairwise_append]
                  refine ⟨p1, by simp, fun x hx y hy => ?_⟩
                  rw [List.mem_singleton.1 hy]
                  obtain ⟨u1, u2, _⟩ := p2 x hx
                  exact ⟨u1, u2⟩
                · intro x hx
                  rcases List.mem_append.1 hx with hx | hx
                  · exact old _ _ (by omega) x hx
                  · rw [List.mem_singleton.1 hx]
                    refine ⟨by simp, by simp, f, _, hf, by simp; rfl, ?_⟩
                    split
                    · exact canB_geo _ _
                    · exact canB_txt _ _
                · simp
                  omega
              · cases h3
theorem apply_parts {a b : List Fr} {es : List Ed} (h : applyE a es = (b, 0)) : chk a = 0 ∧ chk b = 0 ∧ ∃ k, runE a es (0, []) = some (k, b) := by
  unfold applyE at h
  split at h
  · cases h
  · split at h
    · cases h
    · rename_i hc
      have hc' : chk a = 0 := by
        by_cases h0 : chk a = 0
        · exact h0
        · exact absurd h0 hc
      cases hr : runE a es (0, []) with
      | none => rw [hr] at h; cases h
      | some s =>
        obtain ⟨k, out⟩ := s
        rw [hr] at h
        simp only at h
        split at h
        · cases h
        · rename_i hn
          injection h with h1 _
          subst h1
          refine ⟨hc', ?_, k, rfl⟩
          by_cases h0 : chk out = 0
          · exact h0
          · exact absurd (.inr h0) hn
/-- no edits that make the new tree put fewer anew than the difference -/
theorem few_le {a b : List Fr} {es : List Ed} (h : applyE a es = (b, 0)) : putsE (diffL a b) ≤ putsE es := by
  obtain ⟨h1, h2, k, h3⟩ := apply_parts h
  obtain ⟨ps, p1, p2, p3⟩ := few_chain es.length es k b rfl h3
  have h4 := chain_le p1 (fun x hx => by
    obtain ⟨_, _, f, g, hf, hg, hc⟩ := p2 x hx
    exact ⟨g, hg, fromL_own (keys_of_chk h1) hf hc⟩)
  have h5 := puts_diff a b
  omega

/-! ### the edits of the difference are sound -/
def SoundE (s : List Ed) : Prop := ∀ e ∈ s, (0 ≤ e.kind ∧ e.kind ≤ 255) ∧ (Lit.int .i64 e.node).wf = true ∧ (Lit.int .i64 e.part).wf = true ∧ e.f.Wf
theorem z_wf : Fr.z.Wf := ⟨by decide, by decide, by decide, by decide, by decide, by decide, by decide, by simp [Fr.z]⟩
theorem sound_snoc {s : List Ed} (h : SoundE s) {x : Ed} (hx : (0 ≤ x.kind ∧ x.kind ≤ 255) ∧ (Lit.int .i64 x.node).wf = true ∧ (Lit.int .i64 x.part).wf = true ∧ x.f.Wf) : SoundE (s ++ [x]) := fun e he => by
  rcases List.mem_append.1 he with he | he
  · exact h e he
  · rw [List.mem_singleton.1 he]; exact hx
theorem lit0 : (Lit.int .i64 0).wf = true := by decide
theorem sound_keep {s : List Ed} (h : SoundE s) : SoundE (keepD s) := by
  unfold keepD
  cases hl : s.getLast? with
  | none => exact sound_snoc h ⟨by decide, lit0, lit0, z_wf⟩
  | some e =>
    simp only
    split
    · have he := h e (List.mem_of_getLast? hl)
      exact sound_snoc (fun x hx => h x (List.dropLast_subset s hx)) ⟨by simp, he.2.1, he.2.2.1, he.2.2.2⟩
    · exact sound_snoc h ⟨by decide, lit0, lit0, z_wf⟩
theorem sound_skip {s : List Ed} (h : SoundE s) (n : Int) : SoundE (skipD s n) := by
  unfold skipD
  split
  · exact sound_snoc h ⟨by simp, lit0, lit0, z_wf⟩
  · exact h
theorem sound_become {s : List Ed} (h : SoundE s) (f : Fr) {q : Fr} (hq : q.Wf) : SoundE (becomeD s f q) := by
  unfold becomeD
  split
  · exact sound_keep h
  · split
    · exact sound_snoc h ⟨by simp, lit0, lit0, ⟨lit0, lit0, hq.depth, hq.x, hq.y, hq.w, hq.h, by simp⟩⟩
    · exact sound_snoc h ⟨by simp, lit0, lit0, ⟨lit0, lit0, lit0, lit0, lit0, lit0, lit0, hq.text⟩⟩
theorem sound_new {s : List Ed} (h : SoundE s) (a : List Fr) {q : Fr} (hq : q.Wf) : SoundE (newD a s q) := by
  unfold newD
  split
  · exact sound_snoc h ⟨by simp, hq.node, hq.part, z_wf⟩
  · exact sound_snoc h ⟨by simp, lit0, lit0, hq⟩
theorem sound_go (a : List Fr) (ha : a.length ≤ 2048) : ∀ (r : List Fr) (j at_ : Nat) (st : List (Nat × Nat)) (s : List Ed), FrsWf r → SoundE s → (∀ e ∈ s, 0 ≤ e.n ∧ e.n ≤ ((2048 + j : Nat) : Int)) → SoundE (diffGo a r j at_ st s) ∧ ∀ e ∈ diffGo a r j at_ st s, 0 ≤ e.n ∧ e.n ≤ ((2048 + (j + r.length) : Nat) : Int)
  | [], j, at_, st, s, hw, h, hb => by
    rw [diffGo]
    exact ⟨sound_skip h _, bd_skip hb (by omega)⟩
  | g :: r, j, at_, [], s, hw, h, hb => by
    have hg := hw g List.mem_cons_self
    rw [diffGo]
    have h1 := sound_go a ha r (j + 1) at_ [] (newD a s g) (fun x hx => hw x (List.mem_cons_of_mem _ hx)) (sound_new h a hg) (bd_new hb a g)
    refine ⟨h1.1, fun e he => ?_⟩
    have := h1.2 e he
    simp only [List.length_cons]
    omega
  | g :: r, j, at_, (i, j') :: st, s, hw, h, hb => by
    have hg := hw g List.mem_cons_self
    by_cases hj : j' = j
    · subst hj
      cases hf : a[i]? with
      | none =>
        have e : diffGo a (g :: r) j' at_ ((i, j') :: st) s = s := by rw [diffGo, if_pos rfl, hf]
        rw [e]
        exact ⟨h, bd_mono hb (by simp only [List.length_cons]; omega)⟩
      | some f =>
        have hi := (List.getElem?_eq_some_iff.1 hf).1
        rw [diffGo_take hf]
        have h1 := sound_go a ha r (j' + 1) (i + 1) st (becomeD (skipD s ((i : Int) - at_)) f g) (fun x hx => hw x (List.mem_cons_of_mem _ hx)) (sound_become (sound_skip h _) f hg) (bd_become (bd_skip hb (by omega)) f g)
        refine ⟨h1.1, fun e he => ?_⟩
        have := h1.2 e he
        simp only [List.length_cons]
        omega
    · rw [diffGo_new (by simpa [takesD] using hj)]
      have h1 := sound_go a ha r (j + 1) at_ ((i, j') :: st) (newD a s g) (fun x hx => hw x (List.mem_cons_of_mem _ hx)) (sound_new h a hg) (bd_new hb a g)
      refine ⟨h1.1, fun e he => ?_⟩
      have := h1.2 e he
      simp only [List.length_cons]
      omega
theorem diff_wf {a b : List Fr} (ha : a.length ≤ 2048) (hb : b.length ≤ 2048) (hw : FrsWf b) : EdsWf (diffL a b) := by
  have h := sound_go a ha b 0 0 (stayL a b) [] hw (fun e he => nomatch he) (fun e he => nomatch he)
  intro e he
  obtain ⟨h1, h2, h3, h4⟩ := h.1 e he
  have h5 := h.2 e he
  exact ⟨h1, WalkArith.wf_i64 (by omega), h2, h3, h4⟩
end Go.Proofs.Ytiljpbncfofnhaa.Dif
