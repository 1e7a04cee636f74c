/- diff: one fragment changed: still a tree, and one edit more tells it; plainly. -/
import Derived.Test.YtiljpbncfofnhaaDfU
namespace Go.Proofs.Ytiljpbncfofnhaa.Dif
open Go.RowKit FragA FragB MayA Tree EdC EdB EdF
set_option linter.unusedVariables false
set_option linter.unusedSimpArgs false

theorem find_congr {n p : Int} : ∀ (l m : List Fr) (k : Nat), l.map (fun f => (f.node, f.part)) = m.map (fun f => (f.node, f.part)) → findFrom n p l k = findFrom n p m k
  | [], [], _, _ => rfl
  | [], _ :: _, _, h => by simp at h
  | _ :: _, [], _, h => by simp at h
  | f :: l, g :: m, k, h => by
    simp only [List.map_cons, List.cons.injEq, Prod.mk.injEq] at h
    rw [findFrom, findFrom, h.1.1, h.1.2, find_congr l m (k + 1) h.2]
theorem set_keys {a : List Fr} {i : Nat} {f f' : Fr} (hf : a[i]? = some f) (h1 : f'.node = f.node) (h2 : f'.part = f.part) : (a.set i f').map (fun f => (f.node, f.part)) = a.map (fun f => (f.node, f.part)) := by
  apply List.ext_getElem?
  intro k
  rw [List.getElem?_map, List.getElem?_map, List.getElem?_set]
  by_cases hk : i = k
  · subst hk
    rw [if_pos rfl, if_pos (List.getElem?_eq_some_iff.1 hf).1, hf]
    simp [h1, h2]
  · rw [if_neg hk]
/-- what differs from a tree in one fragment alone, of the same key and Depth, is a tree -/
theorem chk_set {a : List Fr} (ha : chk a = 0) {i : Nat} {f f' : Fr} (hf : a[i]? = some f) (h1 : f'.node = f.node) (h2 : f'.part = f.part) (h3 : f'.depth = f.depth) (hm : mayB f' = true) : chk (a.set i f') = 0 := by
  obtain ⟨hok, hne, hlen⟩ := FCheck.chk_zero ha
  have hi := (List.getElem?_eq_some_iff.1 hf).1
  have hat : ∀ (k : Nat) (g : Fr), a[k]? = some g → ∃ g', (a.set i f')[k]? = some g' ∧ g'.node = g.node ∧ g'.part = g.part ∧ g'.depth = g.depth ∧ (mayB g = true → mayB g' = true) := by
    intro k g hg
    rw [List.getElem?_set]
    by_cases hk : i = k
    · subst hk
      rw [hf] at hg
      injection hg with hg
      subst hg
      exact ⟨f', by rw [if_pos rfl, if_pos hi], h1, h2, h3, fun _ => hm⟩
    · exact ⟨g, by rw [if_neg hk]; exact hg, rfl, rfl, rfl, id⟩
  unfold chk
  rw [List.length_set, if_neg (by omega), if_neg (by omega), if_pos]
  rw [allOk_iff]
  intro k hk
  rw [List.length_set] at hk
  have h0 := (allOk_iff a).1 hok k hk
  obtain ⟨g', hg', e1, e2, e3, e4⟩ := hat k a[k] (List.getElem?_eq_getElem hk)
  unfold okAt at h0 ⊢
  rw [List.getElem?_eq_getElem hk] at h0
  rw [hg']
  simp only [Bool.and_eq_true] at h0 ⊢
  obtain ⟨⟨q1, q2⟩, q3⟩ := h0
  refine ⟨⟨e4 q1, ?_⟩, ?_⟩
  · rw [find_congr _ _ _ (set_keys hf h1 h2), e1, e2]
    exact q2
  · by_cases hk0 : k = 0
    · rw [if_pos hk0] at q3 ⊢
      rw [e3]
      exact q3
    · rw [if_neg hk0] at q3 ⊢
      obtain ⟨g2, hg2, _, _, e5, _⟩ := hat (k - 1) a[k - 1] (List.getElem?_eq_getElem (by omega))
      rw [List.getElem?_eq_getElem (show k - 1 < a.length by omega)] at q3
      rw [hg2]
      simp only at q3 ⊢
      rw [e3, e5]
      exact q3
/-- all stay -/
theorem stay_set {a : List Fr} (hk : KeysOwn a) {i : Nat} {f f' : Fr} (hf : a[i]? = some f) (hc : canB f f' = true) : (stayL a (a.set i f')).length = a.length ∧ ∀ x ∈ stayL a (a.set i f'), x.1 = x.2 := by
  have hi := (List.getElem?_eq_some_iff.1 hf).1
  have hat : ∀ (k : Nat), k < a.length → ∃ g g', a[k]? = some g ∧ (a.set i f')[k]? = some g' ∧ canB g g' = true := by
    intro k hkl
    rw [List.getElem?_set]
    by_cases hik : i = k
    · subst hik
      exact ⟨f, f', hf, by rw [if_pos rfl, if_pos hi], hc⟩
    · exact ⟨a[k], a[k], List.getElem?_eq_getElem hkl, by rw [if_neg hik]; exact List.getElem?_eq_getElem hkl, canB_self _⟩
  constructor
  · have h1 := stayL_len a (a.set i f')
    have h2 := chain_le (a := a) (b := a.set i f') (ps := (List.range a.length).map fun k => (k, k)) (by
      rw [List.pairwise_map]
      exact List.pairwise_lt_range.imp fun h => ⟨h, h⟩) (fun x hx => by
      obtain ⟨k, hk', rfl⟩ := List.mem_map.1 hx
      obtain ⟨g, g', hg, hg', hcg⟩ := hat k (List.mem_range.1 hk')
      exact ⟨g', hg', fromL_own hk hg hcg⟩)
    rw [List.length_set] at h1
    simp at h2
    omega
  · intro x hx
    obtain ⟨g1, g2, hg1, hg2, hc2, hkey⟩ := stayL_mem hx
    have hx2 : x.2 < a.length := by have := (stayL_at x hx).2; rwa [List.length_set] at this
    obtain ⟨g, g', hg, hg', hcg⟩ := hat x.2 hx2
    rw [hg2] at hg'
    injection hg' with hg'
    subst hg'
    have h := keyAt_own hk hg (canB_key hcg).1 (canB_key hcg).2
    rw [hkey] at h
    injection h
/-- what the rest is told by, all of it being kept: pre, then as many kept -/
def keptOn (pre : List Ed) (m : Nat) : List Ed := if m = 0 then pre else pre ++ [⟨0, (m : Int), 0, 0, Fr.z⟩]
theorem keptOn_next {pre : List Ed} (hp : ∀ e, pre.getLast? = some e → e.kind ≠ 0) (m : Nat) : keepD (keptOn pre m) = keptOn pre (m + 1) := by
  unfold keptOn
  by_cases h : m = 0
  · subst h
    rw [if_pos rfl, if_neg (by omega), keepD]
    cases hl : pre.getLast? with
    | none => rfl
    | some e => simp only; rw [if_neg (hp e hl)]; rfl
  · rw [if_neg h, if_neg (by omega), keepD]
    simp
/-- from j on the new one is the old one -/
theorem tail_go {a b : List Fr} (hab : a.length = b.length) {pre : List Ed} (hp : ∀ e, pre.getLast? = some e → e.kind ≠ 0) {j0 : Nat} : ∀ (r : List Fr) (j : Nat) (st : List (Nat × Nat)), b.drop j = r → j0 ≤ j → j ≤ a.length → st.length = r.length → (st.Pairwise fun x y => x.2 < y.2) → (∀ x ∈ st, j ≤ x.2 ∧ x.2 < j + r.length ∧ x.1 = x.2) → (∀ k, j ≤ k → a[k]? = b[k]?) →
    diffGo a r j j st (keptOn pre (j - j0)) = keptOn pre (a.length - j0)
  | [], j, st, hr, hj0, hj, hl, _, _, _ => by
    have hlen := congrArg List.length hr
    simp at hlen
    rw [diffGo, show j = a.length from by omega]
    unfold skipD
    rw [if_neg (by omega)]
  | g :: r, j, [], hr, hj0, hj, hl, _, _, _ => by simp at hl
  | g :: r, j, (i, j') :: st, hr, hj0, hj, hl, hps, hv, hsame => by
    obtain ⟨v1, v2, v3⟩ := hv (i, j') List.mem_cons_self
    simp only [List.length_cons] at v1 v2 v3 hl
    have hjj : j' = j := by
      by_cases h : j' = j
      · exact h
      · have := rise_len ((i, j') :: st) (j + 1) (j + (r.length + 1)) hps (fun x hx => by
          have h1 := hv x hx
          simp only [List.length_cons] at h1
          rcases List.mem_cons.1 hx with rfl | hx
          · simp only; omega
          · have h2 := List.rel_of_pairwise_cons hps hx
            simp only at h2
            omega)
        simp only [List.length_cons] at this
        omega
    subst v3
    subst hjj
    have hg : b[i]? = some g := by
      have h1 : (b.drop i)[0]? = some g := by rw [hr]; rfl
      rwa [List.getElem?_drop, Nat.add_zero] at h1
    have hf : a[i]? = some g := by rw [hsame i (Nat.le_refl _)]; exact hg
    have hi := (List.getElem?_eq_some_iff.1 hf).1
    rw [diffGo_take hf]
    have e1 : skipD (keptOn pre (i - j0)) ((i : Int) - (i : Int)) = keptOn pre (i - j0) := by unfold skipD; rw [if_neg (by omega)]
    rw [e1]
    have e2 : becomeD (keptOn pre (i - j0)) g g = keptOn pre (i + 1 - j0) := by rw [becomeD, if_pos (Fr.beq_self g), keptOn_next hp, show i - j0 + 1 = i + 1 - j0 from by omega]
    rw [e2]
    exact tail_go hab hp r (i + 1) st (by rw [← List.drop_drop, hr]; rfl) (by omega) (by omega) (by omega) (List.Pairwise.of_cons hps) (fun x hx => by
      obtain ⟨u1, u2, u3⟩ := hv x (List.mem_cons_of_mem _ hx)
      have h2 := List.rel_of_pairwise_cons hps hx
      simp only [List.length_cons] at u2 h2
      exact ⟨by omega, by omega, u3⟩) (fun k hk => hsame k (by omega))
/-- the first ones are kept, then the one that differs is told -/
theorem head_go {a b : List Fr} (hab : a.length = b.length) {i0 : Nat} {f f' : Fr} (hf : a[i0]? = some f) (hf' : b[i0]? = some f') (hsame : ∀ k, k ≠ i0 → a[k]? = b[k]?) {e : Ed} (he : ∀ s, becomeD s f f' = s ++ [e]) (hek : e.kind ≠ 0) : ∀ (r : List Fr) (j : Nat) (st : List (Nat × Nat)), b.drop j = r → j ≤ i0 → st.length = r.length → (st.Pairwise fun x y => x.2 < y.2) → (∀ x ∈ st, j ≤ x.2 ∧ x.2 < j + r.length ∧ x.1 = x.2) →
    diffGo a r j j st (kept j) = keptOn (kept i0 ++ [e]) (a.length - (i0 + 1))
  | [], j, st, hr, hj, hl, _, _ => by
    have hlen := congrArg List.length hr
    simp at hlen
    have := (List.getElem?_eq_some_iff.1 hf).1
    omega
  | g :: r, j, [], hr, hj, hl, _, _ => by simp at hl
  | g :: r, j, (i, j') :: st, hr, hj, hl, hps, hv => by
    obtain ⟨v1, v2, v3⟩ := hv (i, j') List.mem_cons_self
    simp only [List.length_cons] at v1 v2 v3 hl
    have hjj : j' = j := by
      by_cases h : j' = j
      · exact h
      · have := rise_len ((i, j') :: st) (j + 1) (j + (r.length + 1)) hps (fun x hx => by
          have h1 := hv x hx
          simp only [List.length_cons] at h1
          rcases List.mem_cons.1 hx with rfl | hx
          · simp only; omega
          · have h2 := List.rel_of_pairwise_cons hps hx
            simp only at h2
            omega)
        simp only [List.length_cons] at this
        omega
    subst v3
    subst hjj
    have hg : b[i]? = some g := by
      have h1 : (b.drop i)[0]? = some g := by rw [hr]; rfl
      rwa [List.getElem?_drop, Nat.add_zero] at h1
    have hrest : ∀ x ∈ st, i + 1 ≤ x.2 ∧ x.2 < i + 1 + r.length ∧ x.1 = x.2 := fun x hx => by
      obtain ⟨u1, u2, u3⟩ := hv x (List.mem_cons_of_mem _ hx)
      have h2 := List.rel_of_pairwise_cons hps hx
      simp only [List.length_cons] at u2 h2
      exact ⟨by omega, by omega, u3⟩
    have e1 : skipD (kept i) ((i : Int) - (i : Int)) = kept i := by unfold skipD; rw [if_neg (by omega)]
    by_cases hii : i = i0
    · subst hii
      rw [hf'] at hg
      injection hg with hg
      subst hg
      have hi := (List.getElem?_eq_some_iff.1 hf).1
      rw [diffGo_take hf, e1, he]
      have h := tail_go hab (pre := kept i ++ [e]) (j0 := i + 1) (by intro x hx; simp at hx; subst hx; exact hek) r (i + 1) st (by rw [← List.drop_drop, hr]; rfl) (Nat.le_refl _) (by omega) (by omega) (List.Pairwise.of_cons hps) hrest (fun k hk => hsame k (by omega))
      rw [Nat.sub_self, show keptOn (kept i ++ [e]) 0 = kept i ++ [e] from rfl] at h
      exact h
    · have hfi : a[i]? = some g := by rw [hsame i hii]; exact hg
      rw [diffGo_take hfi, e1, becomeD, if_pos (Fr.beq_self g), kept_next]
      exact head_go hab hf hf' hsame he hek r (i + 1) st (by rw [← List.drop_drop, hr]; rfl) (by omega) (by omega) (List.Pairwise.of_cons hps) hrest
/-- the difference where one fragment is another one that may stay as it -/
theorem diff_set {a : List Fr} (ha : chk a = 0) {i : Nat} {f f' : Fr} (hf : a[i]? = some f) (hc : canB f f' = true) {e : Ed} (he : ∀ s, becomeD s f f' = s ++ [e]) (hek : e.kind ≠ 0) : diffL a (a.set i f') = keptOn (kept i ++ [e]) (a.length - (i + 1)) := by
  have hi := (List.getElem?_eq_some_iff.1 hf).1
  obtain ⟨h1, h2⟩ := stay_set (keys_of_chk ha) hf hc
  have h := head_go (a := a) (b := a.set i f') (by rw [List.length_set]) hf (by rw [List.getElem?_set, if_pos rfl, if_pos hi]) (fun k hk => by rw [List.getElem?_set, if_neg (fun h => hk h.symm)]) he hek (a.set i f') 0 (stayL a (a.set i f')) rfl (Nat.zero_le _) (by rw [h1, List.length_set]) ((stayL_rise _ _).imp fun h => h.2) (fun x hx => ⟨Nat.zero_le _, by have := stayL_at x hx; omega, h2 x hx⟩)
  exact h
/-- how many edits of a kind -/
def kindsE (k : Int) (s : List Ed) : Nat := s.countP fun e => e.kind == k
theorem kinds_on {a : List Fr} {i : Nat} {e : Ed} {k m : Nat} (hk : (k : Int) ≠ 0) (he : e.kind = k) : kindsE k (keptOn (kept i ++ [e]) m) = 1 := by
  have h0 : ((0 : Int) == (k : Int)) = false := by simp; omega
  unfold keptOn kept kindsE
  split <;> split <;> simp [List.countP_append, h0, he]
theorem len_on {i : Nat} {e : Ed} {m : Nat} : (keptOn (kept i ++ [e]) m).length ≤ 3 := by
  unfold keptOn kept
  split <;> split <;> simp
theorem puts_set {a : List Fr} (ha : chk a = 0) {i : Nat} {f f' : Fr} (hf : a[i]? = some f) (hc : canB f f' = true) : putsE (diffL a (a.set i f')) = 0 := by
  have h1 := puts_diff a (a.set i f')
  have h2 := (stay_set (keys_of_chk ha) hf hc).1
  rw [List.length_set] at h1
  omega
end Go.Proofs.Ytiljpbncfofnhaa.Dif
