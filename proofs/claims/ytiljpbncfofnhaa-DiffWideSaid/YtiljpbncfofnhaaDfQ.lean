/- diff: what the difference does, how many edits it has, that of a tree and itself; plainly. -/
import Derived.Test.YtiljpbncfofnhaaDfP
import Derived.Test.YtiljpbncfofnhaaDfI
namespace Go.Proofs.Ytiljpbncfofnhaa.Dif
open Go.RowKit FragA FragB MayA Tree EdC EdB EdF
set_option linter.unusedVariables false
set_option linter.unusedSimpArgs false

/-! ### how many are put anew; how many edits there are -/
theorem puts_snoc (s : List Ed) (e : Ed) : putsE (s ++ [e]) = putsE s + (if e.kind == 2 || e.kind == 3 then 1 else 0) := by
  simp only [putsE, List.countP_append, List.countP_singleton]
theorem last_split {s : List Ed} {e : Ed} (h : s.getLast? = some e) : s = s.dropLast ++ [e] := by
  rcases List.eq_nil_or_concat s with rfl | ⟨r, y, rfl⟩
  · simp at h
  · simp at h
    subst h
    simp
theorem puts_skip (s : List Ed) (n : Int) : putsE (skipD s n) = putsE s := by
  unfold skipD
  split
  · rw [puts_snoc]; simp
  · rfl
theorem puts_keep (s : List Ed) : putsE (keepD s) = putsE s := by
  unfold keepD
  cases hl : s.getLast? with
  | none => simp only; rw [puts_snoc]; simp
  | some e =>
    simp only
    split
    · rename_i hk
      rw [puts_snoc]
      conv => rhs; rw [last_split hl, puts_snoc]
      simp [hk]
    · rw [puts_snoc]; simp
theorem puts_become (s : List Ed) (f g : Fr) : putsE (becomeD s f g) = putsE s := by
  unfold becomeD
  split
  · exact puts_keep s
  · split <;> (rw [puts_snoc]; simp)
theorem puts_new (a : List Fr) (s : List Ed) (g : Fr) : putsE (newD a s g) = putsE s + 1 := by
  unfold newD
  split <;> (rw [puts_snoc]; simp)
theorem puts_go (a : List Fr) : ∀ (r : List Fr) (j at_ : Nat) (st : List (Nat × Nat)) (s : List Ed), (st.Pairwise fun x y => x.2 < y.2) → (∀ x ∈ st, x.1 < a.length ∧ j ≤ x.2 ∧ x.2 < j + r.length) → putsE (diffGo a r j at_ st s) + st.length = putsE s + r.length
  | [], j, at_, st, s, _, hv => by
    rcases st with _ | ⟨x, st⟩
    · rw [diffGo, puts_skip]; rfl
    · have := hv x List.mem_cons_self
      simp at this
      omega
  | g :: r, j, at_, [], s, _, _ => by
    rw [diffGo]
    have h := puts_go a r (j + 1) at_ [] (newD a s g) (by simp) (by simp)
    rw [puts_new] at h
    simp only [List.length_nil, List.length_cons] at h ⊢
    omega
  | g :: r, j, at_, (i, j') :: st, s, hp, hv => by
    have h0 := hv (i, j') List.mem_cons_self
    simp only [List.length_cons] at h0
    by_cases hj : j' = j
    · subst hj
      obtain ⟨f, hf⟩ : ∃ f, a[i]? = some f := ⟨_, List.getElem?_eq_getElem h0.1⟩
      rw [diffGo_take hf]
      have h := puts_go a r (j' + 1) (i + 1) st (becomeD (skipD s ((i : Int) - at_)) f g) (List.Pairwise.of_cons hp) (fun x hx => by
        have h1 := hv x (List.mem_cons_of_mem _ hx)
        have h2 := List.rel_of_pairwise_cons hp hx
        simp only [List.length_cons] at h1 h2
        omega)
      rw [puts_become, puts_skip] at h
      simp only [List.length_cons]
      omega
    · rw [diffGo_new (by simpa [takesD] using hj)]
      have h := puts_go a r (j + 1) at_ ((i, j') :: st) (newD a s g) hp (fun x hx => by
        have h1 := hv x hx
        simp only [List.length_cons] at h1
        rcases List.mem_cons.1 hx with rfl | hx
        · simp only at h1 ⊢; omega
        · have h2 := List.rel_of_pairwise_cons hp hx
          simp only at h2
          omega)
      rw [puts_new] at h
      simp only [List.length_cons] at h ⊢
      omega
theorem stayL_at {a b : List Fr} : ∀ x ∈ stayL a b, x.1 < a.length ∧ x.2 < b.length := fun x hx => by
  obtain ⟨f, g, hf, hg, _, _⟩ := stayL_mem hx
  exact ⟨(List.getElem?_eq_some_iff.1 hf).1, (List.getElem?_eq_some_iff.1 hg).1⟩
theorem stayL_rise (a b : List Fr) : (stayL a b).Pairwise fun x y => x.1 < y.1 ∧ x.2 < y.2 := selL_rise _ _ _ _
/-- what does not stay is put anew -/
theorem puts_diff (a b : List Fr) : putsE (diffL a b) + (stayL a b).length = b.length := by
  have h := puts_go a b 0 0 (stayL a b) [] ((stayL_rise a b).imp fun h => h.2) (fun x hx => by have := stayL_at x hx; omega)
  rw [diffL, h]
  simp [putsE]
theorem len_go (a : List Fr) : ∀ (r : List Fr) (j at_ : Nat) (st : List (Nat × Nat)) (s : List Ed), (st.Pairwise fun x y => x.1 < y.1) → (∀ x ∈ st, at_ ≤ x.1 ∧ x.1 < a.length) → at_ ≤ a.length → (diffGo a r j at_ st s).length + at_ ≤ s.length + r.length + a.length
  | [], j, at_, st, s, _, _, hat => by
    rw [diffGo]
    unfold skipD
    split
    · simp; omega
    · simp; omega
  | g :: r, j, at_, [], s, _, _, hat => by
    rw [diffGo]
    have h := len_go a r (j + 1) at_ [] (newD a s g) (by simp) (by simp) hat
    have := len_new a s g
    simp only [List.length_cons]
    omega
  | g :: r, j, at_, (i, j') :: st, s, hp, hv, hat => by
    have h0 := hv (i, j') List.mem_cons_self
    by_cases hj : j' = j
    · subst hj
      obtain ⟨f, hf⟩ : ∃ f, a[i]? = some f := ⟨_, List.getElem?_eq_getElem h0.2⟩
      rw [diffGo_take hf]
      have h := len_go a r (j' + 1) (i + 1) st (becomeD (skipD s ((i : Int) - at_)) f g) (List.Pairwise.of_cons hp) (fun x hx => by
        have h1 := hv x (List.mem_cons_of_mem _ hx)
        have h2 := List.rel_of_pairwise_cons hp hx
        simp only at h2
        omega) (by simp only at h0; omega)
      have h3 := len_become (skipD s ((i : Int) - at_)) f g
      have h4 : (skipD s ((i : Int) - at_)).length ≤ s.length + (i - at_) := by
        unfold skipD
        split
        · simp; omega
        · omega
      simp only [List.length_cons] at h0 ⊢
      omega
    · rw [diffGo_new (by simpa [takesD] using hj)]
      have h := len_go a r (j + 1) at_ ((i, j') :: st) (newD a s g) hp hv hat
      have := len_new a s g
      simp only [List.length_cons]
      omega
theorem len_diff (a b : List Fr) : (diffL a b).length ≤ a.length + b.length := by
  have h := len_go a b 0 0 (stayL a b) [] ((stayL_rise a b).imp fun h => h.1) (fun x hx => ⟨Nat.zero_le _, (stayL_at x hx).1⟩) (Nat.zero_le _)
  simp only [List.length_nil] at h
  rw [diffL]
  omega

/-! ### keys -/
theorem canB_symm (f g : Fr) : canB f g = canB g f := by
  rw [Bool.eq_iff_iff]
  simp only [canB, Bool.and_eq_true, Bool.or_eq_true, beq_iff_eq]
  constructor <;> (rintro ⟨⟨h1, h2⟩, h3⟩; exact ⟨⟨h1.symm, h2.symm⟩, h3.imp Eq.symm fun h => ⟨h.1.symm, h.2.1.symm, h.2.2.1.symm, h.2.2.2.1.symm, h.2.2.2.2.symm⟩⟩)
theorem canB_self (f : Fr) : canB f f = true := by simp [canB]
theorem canB_key {f g : Fr} (h : canB f g = true) : f.node = g.node ∧ f.part = g.part := by
  simp only [canB, Bool.and_eq_true, beq_iff_eq] at h
  exact h.1
theorem findFrom_key {n p : Int} : ∀ (l : List Fr) (k i : Nat) (f : Fr), l[i]? = some f → f.node = n → f.part = p → (∀ i' f', i' < i → l[i']? = some f' → ¬ (f'.node = n ∧ f'.part = p)) → findFrom n p l k = ((k + i : Nat) : Int)
  | g :: l, k, 0, f, h, h1, h2, _ => by
    simp at h
    subst h
    rw [findFrom_yes ⟨by simp [h1], by simp [h2]⟩]
    rfl
  | g :: l, k, i + 1, f, h, h1, h2, hno => by
    have h0 := hno 0 g (by omega) rfl
    rw [findFrom_no (by by_cases hg : g.node = n
                        · exact .inr (by simpa using fun h => h0 ⟨hg, h⟩)
                        · exact .inl (by simpa using hg)),
      findFrom_key l (k + 1) i f (by simpa using h) h1 h2 (fun i' f' hi hf => hno (i' + 1) f' (by omega) (by simpa using hf))]
    congr 1
    omega
/-- where a fragment of this key stands -/
theorem keyAt_own {a : List Fr} (hk : KeysOwn a) {i : Nat} {f g : Fr} (hf : a[i]? = some f) (h1 : f.node = g.node) (h2 : f.part = g.part) : keyAt a g = some i := by
  have hno : ∀ i' f', i' < i → a[i']? = some f' → ¬ (f'.node = g.node ∧ f'.part = g.part) := by
    intro i' f' hi hf' ⟨e1, e2⟩
    have h := hk i f hf
    rw [atKey_find] at h
    split at h
    · rename_i hneg
      have hi' : (a.take i)[i']? = some f' := by rw [List.getElem?_take_of_lt hi]; exact hf'
      have : ∀ (l : List Fr) (k i' : Nat) (f' : Fr), l[i']? = some f' → f'.node = f.node → f'.part = f.part → 0 ≤ findFrom f.node f.part l k := by
        intro l
        induction l with
        | nil => intro k i' f' h; simp at h
        | cons x l ih =>
          intro k i' f' h e1 e2
          rw [findFrom]
          split
          · omega
          · rename_i hc
            rcases i' with _ | i'
            · simp at h; subst h; exact absurd (by simp [e1, e2]) hc
            · exact ih (k + 1) i' f' (by simpa using h) e1 e2
      have := this (a.take i) 0 i' f' hi' (e1.trans h1.symm) (e2.trans h2.symm)
      omega
    · cases h
  have h := findFrom_key a 0 i f hf h1 h2 hno
  rw [keyAt, h, if_neg (by omega)]
  congr 1
  omega
theorem fromL_own {a : List Fr} (hk : KeysOwn a) {i : Nat} {f g : Fr} (hf : a[i]? = some f) (hc : canB f g = true) : fromL a g = some i := by
  have h := canB_key hc
  rw [fromL_at (keyAt_own hk hf h.1 h.2) hf, if_pos hc]
/-- just as many stay from the new one to the old one -/
theorem stay_turn_le {a b : List Fr} (hk : KeysOwn b) : (stayL a b).length ≤ (stayL b a).length := by
  have h := chain_le (a := b) (b := a) (ps := (stayL a b).map fun x => (x.2, x.1)) (by
    rw [List.pairwise_map]
    exact (stayL_rise a b).imp fun h => ⟨h.2, h.1⟩) (fun x hx => by
    obtain ⟨y, hy, rfl⟩ := List.mem_map.1 hx
    obtain ⟨f, g, hf, hg, hc, _⟩ := stayL_mem hy
    exact ⟨f, hf, fromL_own hk hg (by rw [canB_symm]; exact hc)⟩)
  simpa using h
theorem stay_turn {a b : List Fr} (ha : KeysOwn a) (hb : KeysOwn b) : (stayL a b).length = (stayL b a).length := Nat.le_antisymm (stay_turn_le hb) (stay_turn_le ha)
end Go.Proofs.Ytiljpbncfofnhaa.Dif
