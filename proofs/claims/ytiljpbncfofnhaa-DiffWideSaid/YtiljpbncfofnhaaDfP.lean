/- diff: longest rows that rise in both, plainly. -/
import Derived.Test.YtiljpbncfofnhaaDfG
namespace Go.Proofs.Ytiljpbncfofnhaa.Dif
open Go.RowKit FragA FragB MayA Tree EdC EdB
set_option linter.unusedVariables false
set_option linter.unusedSimpArgs false

/-- numbers that rise -/
abbrev Rise (c : List Nat) : Prop := c.Pairwise (· < ·)
/-- each row that rises and stands in fs begins one that is told at least as long -/
theorem pairs_up : ∀ (fs : List (Option Nat)) (i : Nat) (c : List Nat), ((i :: c).map some).Sublist fs → Rise (i :: c) → ∃ x ∈ pairsOf fs, x.1 = i ∧ c.length + 1 ≤ x.2
  | [], i, c, h, _ => by simp at h
  | o :: r, i, c, h, hr => by
    rw [List.map_cons] at h
    by_cases hs : ((some i) :: c.map some).Sublist r
    · obtain ⟨x, hx, h1, h2⟩ := pairs_up r i c hs hr
      refine ⟨x, ?_, h1, h2⟩
      cases o with
      | none => exact hx
      | some k => exact List.mem_cons_of_mem _ hx
    · rcases List.sublist_cons_iff.1 h with h | ⟨l', h3, h4⟩
      · exact absurd h hs
      · injection h3 with h3 h5
        subst h3
        subst h5
        refine ⟨(i, 1 + longOf (pairsOf r) i), List.mem_cons_self, rfl, ?_⟩
        rcases c with _ | ⟨i', c⟩
        · simp
        · obtain ⟨x, hx, h6, h7⟩ := pairs_up r i' c (by simpa using h4) (List.Pairwise.of_cons hr)
          have hlt : i < i' := List.rel_of_pairwise_cons hr List.mem_cons_self
          have := longOf_ge (i := i) x hx (by omega)
          simp only [List.length_cons]
          omega
/-- ... and each that is told is there -/
theorem pairs_there : ∀ (fs : List (Option Nat)), ∀ x ∈ pairsOf fs, ∃ c : List Nat, ((x.1 :: c).map some).Sublist fs ∧ Rise (x.1 :: c) ∧ c.length + 1 = x.2
  | [], x, h => by cases h
  | none :: r, x, h => by
    obtain ⟨c, h1, h2, h3⟩ := pairs_there r x h
    exact ⟨c, h1.cons _, h2, h3⟩
  | some i :: r, x, h => by
    rcases List.mem_cons.1 h with rfl | h
    · rcases longOf_met (pairsOf r) i with h0 | ⟨y, hy, h1, h2⟩
      · exact ⟨[], by simp, by simp [Rise], by simp [h0]⟩
      · obtain ⟨c, h3, h4, h5⟩ := pairs_there r y hy
        refine ⟨y.1 :: c, by simpa using h3, ?_, by simp only [List.length_cons]; omega⟩
        rw [Rise, List.pairwise_cons]
        refine ⟨fun z hz => ?_, h4⟩
        rcases List.mem_cons.1 hz with rfl | hz
        · exact h1
        · have := List.rel_of_pairwise_cons h4 hz
          simp only
          omega
    · obtain ⟨c, h1, h2, h3⟩ := pairs_there r x h
      exact ⟨c, h1.cons _, h2, h3⟩
theorem needOf_ge {fs : List (Option Nat)} : ∀ x ∈ pairsOf fs, x.2 ≤ needOf fs := by
  have key : ∀ (fs : List (Option Nat)), ∀ x ∈ pairsOf fs, x.2 ∈ lngOf fs := by
    intro fs
    induction fs with
    | nil => intro x h; cases h
    | cons o r ih =>
      intro x h
      cases o with
      | none => exact List.mem_cons_of_mem _ (ih x h)
      | some i =>
        rcases List.mem_cons.1 h with rfl | h
        · exact List.mem_cons_self
        · exact List.mem_cons_of_mem _ (ih x h)
  intro x h
  have h1 := key fs x h
  have : ∀ (l : List Nat) (v : Nat), v ∈ l → v ≤ l.foldr max 0 := by
    intro l
    induction l with
    | nil => intro v h; cases h
    | cons a l ih =>
      intro v h
      simp only [List.foldr_cons]
      rcases List.mem_cons.1 h with rfl | h
      · omega
      · have := ih v h; omega
  exact this _ _ h1
theorem needOf_met (fs : List (Option Nat)) : needOf fs = 0 ∨ ∃ x ∈ pairsOf fs, x.2 = needOf fs := by
  induction fs with
  | nil => exact .inl rfl
  | cons o r ih =>
    cases o with
    | none =>
      have e : needOf (none :: r) = needOf r := by simp [needOf, lngOf]
      rw [e]
      exact ih
    | some i =>
      have e : needOf (some i :: r) = max (1 + longOf (pairsOf r) i) (needOf r) := rfl
      rw [e]
      by_cases h : needOf r ≤ 1 + longOf (pairsOf r) i
      · exact .inr ⟨_, List.mem_cons_self, by simp only; omega⟩
      · rcases ih with h0 | ⟨x, hx, h1⟩
        · omega
        · exact .inr ⟨x, List.mem_cons_of_mem _ hx, by omega⟩
/-- no row that rises is longer -/
theorem rise_le {fs : List (Option Nat)} {c : List Nat} (h : (c.map some).Sublist fs) (hr : Rise c) : c.length ≤ needOf fs := by
  rcases c with _ | ⟨i, c⟩
  · simp
  · obtain ⟨x, hx, h1, h2⟩ := pairs_up fs i c h hr
    have := needOf_ge x hx
    simp only [List.length_cons]
    omega
/-- ... and one is as long -/
theorem rise_met (fs : List (Option Nat)) : ∃ c : List Nat, (c.map some).Sublist fs ∧ Rise c ∧ c.length = needOf fs := by
  rcases needOf_met fs with h | ⟨x, hx, h⟩
  · exact ⟨[], by simp, by simp [Rise], by simp [h]⟩
  · obtain ⟨c, h1, h2, h3⟩ := pairs_there fs x hx
    exact ⟨x.1 :: c, h1, h2, by simp only [List.length_cons]; omega⟩
/-- as many are chosen as the longest row has -/
theorem selL_need : ∀ (fs : List (Option Nat)) (need : Nat) (last : Int) (j : Nat), (need = 0 ∨ ∃ x ∈ pairsOf fs, x.2 = need ∧ last < (x.1 : Int)) → (selL (fs.zip (lngOf fs)) need last j).length = need
  | [], need, last, j, h => by
    rcases h with h | ⟨x, hx, _⟩
    · simp [selL, h]
    · cases hx
  | none :: r, need, last, j, h => by
    rw [lngOf, List.zip_cons_cons, selL_no (fun i e => by cases e)]
    exact selL_need r need last (j + 1) h
  | some i :: r, need, last, j, h => by
    rw [lngOf, List.zip_cons_cons]
    by_cases hc : 0 < need ∧ 1 + longOf (pairsOf r) i = need ∧ last < (i : Int)
    · rw [selL_yes hc, List.length_cons, selL_need r (need - 1) (i : Int) (j + 1) ?_]
      · omega
      · rcases longOf_met (pairsOf r) i with h0 | ⟨y, hy, h1, h2⟩
        · left; omega
        · exact .inr ⟨y, hy, by omega, by omega⟩
    · rw [selL_no (fun i' e => by injection e with e; subst e; exact hc)]
      refine selL_need r need last (j + 1) ?_
      rcases h with h | ⟨x, hx, h1, h2⟩
      · exact .inl h
      · by_cases h0 : need = 0
        · exact .inl h0
        · rcases List.mem_cons.1 hx with rfl | hx
          · exact absurd ⟨by omega, h1, h2⟩ hc
          · exact .inr ⟨x, hx, h1, h2⟩
theorem stayL_need (a b : List Fr) : (stayL a b).length = needOf (b.map (fromL a)) := by
  unfold stayL
  refine selL_need _ _ _ _ ?_
  rcases needOf_met (b.map (fromL a)) with h | ⟨x, hx, h⟩
  · exact .inl h
  · exact .inr ⟨x, hx, h, by omega⟩
/-- what is chosen rises in both -/
theorem selL_rise : ∀ (zs : List (Option Nat × Nat)) (need : Nat) (last : Int) (j : Nat), (selL zs need last j).Pairwise fun x y => x.1 < y.1 ∧ x.2 < y.2
  | [], _, _, _ => by simp [selL]
  | (o, g) :: r, need, last, j => by
    by_cases hc : ∃ i, o = some i ∧ (0 < need ∧ g = need ∧ last < (i : Int))
    · obtain ⟨i, rfl, hc⟩ := hc
      rw [selL_yes hc, List.pairwise_cons]
      refine ⟨fun y hy => ?_, selL_rise r (need - 1) (i : Int) (j + 1)⟩
      obtain ⟨h1, h2, h3, _⟩ := selL_mem r (need - 1) (i : Int) (j + 1) y hy
      simp only
      omega
    · rw [selL_no (fun i e h => hc ⟨i, e, h⟩)]
      exact selL_rise r need last (j + 1)
/-- one of what stays: where it stands, and that it can -/
theorem stayL_mem {a b : List Fr} {x : Nat × Nat} (h : x ∈ stayL a b) : ∃ f g, a[x.1]? = some f ∧ b[x.2]? = some g ∧ canB f g = true ∧ keyAt a g = some x.1 := by
  unfold stayL at h
  obtain ⟨h1, h2, h3, gg, h4⟩ := selL_mem _ _ _ _ x h
  rw [Nat.sub_zero, List.getElem?_zip_eq_some] at h4
  have h5 := h4.1
  rw [List.getElem?_map] at h5
  cases hg : b[x.2]? with
  | none => rw [hg] at h5; cases h5
  | some g =>
    rw [hg, Option.map_some] at h5
    injection h5 with h5
    obtain ⟨hk, f, hf, hc⟩ := fromL_some h5
    exact ⟨f, g, hf, rfl, hc, hk⟩
/-- values at places that rise stand in the row, in order -/
theorem sub_of_places {α : Type} : ∀ (L : List α) (ps : List (Nat × α)), (ps.Pairwise fun x y => x.1 < y.1) → (∀ p ∈ ps, L[p.1]? = some p.2) → (ps.map (·.2)).Sublist L
  | L, [], _, _ => by simp
  | [], p :: ps, _, h => by have := h p List.mem_cons_self; simp at this
  | x :: L, (0, v) :: ps, hp, h => by
    have h0 := h (0, v) List.mem_cons_self
    simp at h0
    subst h0
    refine List.Sublist.cons_cons _ ?_
    have hp2 : ∀ q ∈ ps, 0 < q.1 := fun q hq => List.rel_of_pairwise_cons hp hq
    have e : ps.map (·.2) = (ps.map fun p => (p.1 - 1, p.2)).map (·.2) := by rw [List.map_map]; rfl
    rw [e]
    refine sub_of_places L _ ?_ ?_
    · rw [List.pairwise_map]
      refine List.Pairwise.imp_of_mem ?_ (List.Pairwise.of_cons hp)
      intro u v hu hv huv
      have := hp2 u hu
      simp only
      omega
    · intro p hm
      obtain ⟨q, hq, rfl⟩ := List.mem_map.1 hm
      have h1 := hp2 q hq
      have h2 := h q (List.mem_cons_of_mem _ hq)
      simp only
      rw [← h2, show q.1 = (q.1 - 1) + 1 from by omega, List.getElem?_cons_succ]
      rfl
  | x :: L, (k + 1, v) :: ps, hp, h => by
    have hp2 : ∀ q ∈ ps, k + 1 < q.1 := fun q hq => List.rel_of_pairwise_cons hp hq
    refine List.Sublist.cons _ ?_
    have e : ((k + 1, v) :: ps).map (·.2) = (((k + 1, v) :: ps).map fun p => (p.1 - 1, p.2)).map (·.2) := by rw [List.map_map]; rfl
    rw [e]
    have hpos : ∀ p ∈ (k + 1, v) :: ps, 0 < p.1 := fun p hm => by
      rcases List.mem_cons.1 hm with rfl | hm
      · simp
      · have := hp2 p hm; omega
    refine sub_of_places L _ ?_ ?_
    · rw [List.pairwise_map]
      refine List.Pairwise.imp_of_mem ?_ hp
      intro u v hu hv huv
      have := hpos u hu
      have := hpos v hv
      simp only
      omega
    · intro p hm
      obtain ⟨q, hq, rfl⟩ := List.mem_map.1 hm
      have h1 := hpos q hq
      have h2 := h q hq
      simp only
      rw [← h2, show q.1 = (q.1 - 1) + 1 from by omega, List.getElem?_cons_succ]
      rfl
termination_by L => L.length
/-- pairs that rise in both and can stay are no more than stay -/
theorem chain_le {a b : List Fr} {ps : List (Nat × Nat)} (h1 : ps.Pairwise fun x y => x.1 < y.1 ∧ x.2 < y.2) (h2 : ∀ x ∈ ps, ∃ g, b[x.2]? = some g ∧ fromL a g = some x.1) : ps.length ≤ (stayL a b).length := by
  rw [stayL_need]
  have hsub := sub_of_places (b.map (fromL a)) (ps.map fun x => (x.2, some x.1)) (by
    rw [List.pairwise_map]
    exact h1.imp fun h => h.2) (fun p hp => by
    obtain ⟨x, hx, rfl⟩ := List.mem_map.1 hp
    obtain ⟨g, hg, he⟩ := h2 x hx
    rw [List.getElem?_map, hg]
    exact congrArg some he)
  have e : (ps.map fun x => (x.2, some x.1)).map (·.2) = (ps.map (·.1)).map some := by rw [List.map_map, List.map_map]; rfl
  rw [e] at hsub
  have := rise_le hsub (by
    rw [Rise, List.pairwise_map]
    exact h1.imp fun h => h.1)
  simpa using this
end Go.Proofs.Ytiljpbncfofnhaa.Dif
