/- frag, plainly: what hangs below what, in a tree. -/
import Derived.Test.YtoneechcclndaaaFrP
namespace Go.Proofs.Ytoneechcclndaaa.FTr
open MayA FragA FragB Tree FForm
set_option linter.unusedVariables false
set_option linter.unusedSimpArgs false

def dep (l : List Fr) (k : Nat) : Int := match l[k]? with | none => 0 | some f => f.depth
theorem dep_at {l : List Fr} {k : Nat} {f : Fr} (h : l[k]? = some f) : dep l k = f.depth := by unfold dep; rw [h]
structure TreeD (l : List Fr) : Prop where
  ne : 0 < l.length
  le : l.length ≤ 2048
  zero : dep l 0 = 0
  step : ∀ k, k + 1 < l.length → 1 ≤ dep l (k + 1) ∧ dep l (k + 1) ≤ dep l k + 1
theorem chk_ok {l : List Fr} (h : chk l = 0) : allOk l = true := by
  unfold chk at h
  split at h
  · cases h
  · split at h
    · cases h
    · split at h
      · assumption
      · cases h
theorem chk_zero {l : List Fr} (h1 : 0 < l.length) (h2 : l.length ≤ 2048) (h : allOk l = true) : chk l = 0 := by
  unfold chk
  rw [if_neg (by omega), if_neg (by omega), if_pos h]
theorem tree_of {l : List Fr} (h : chk l = 0) : TreeD l := by
  have hm := chk_may h
  have ha := (allOk_iff l).1 (chk_ok h)
  have hp : 0 < l.length := by rcases l with _ | ⟨a, l⟩; exact absurd rfl hm.1; simp
  refine ⟨hp, hm.2.1, ?_, fun k hk => ?_⟩
  · have h0 := ha 0 hp
    unfold okAt at h0
    unfold dep
    rw [List.getElem?_eq_getElem hp] at h0 ⊢
    simp only [Bool.and_eq_true, if_true, decide_eq_true_eq] at h0
    exact h0.2
  · have h0 := ha (k + 1) hk
    unfold okAt at h0
    unfold dep
    rw [List.getElem?_eq_getElem hk] at h0 ⊢
    simp only [Bool.and_eq_true, if_neg (Nat.succ_ne_zero k), Nat.add_sub_cancel] at h0
    rw [List.getElem?_eq_getElem (show k < l.length by omega)] at h0 ⊢
    simp only [rng_iff] at h0
    exact h0.2
theorem endFrom_spec (l : List Fr) (d : Int) : ∀ n j : Nat, j + n = l.length → j ≤ endFrom l d n j ∧ endFrom l d n j ≤ l.length ∧ (∀ i, j ≤ i → i < endFrom l d n j → d < dep l i) ∧ (endFrom l d n j < l.length → dep l (endFrom l d n j) ≤ d)
  | 0, j, h => by
    simp only [endFrom]
    exact ⟨Nat.le_refl _, by omega, fun i h1 h2 => by omega, fun h => by omega⟩
  | n + 1, j, h => by
    have hx : l[j]? = some l[j] := List.getElem?_eq_getElem (by omega)
    have hd := dep_at hx
    unfold endFrom
    rw [hx]
    simp only
    by_cases hlt : d < l[j].depth
    · rw [if_pos hlt]
      obtain ⟨h1, h2, h3, h4⟩ := endFrom_spec l d n (j + 1) (by omega)
      refine ⟨by omega, h2, fun i hi hl => ?_, h4⟩
      by_cases e : i = j
      · rw [e, hd]; exact hlt
      · exact h3 i (by omega) hl
    · rw [if_neg hlt]
      exact ⟨Nat.le_refl _, by omega, fun i h1 h2 => by omega, fun _ => by rw [hd]; omega⟩
/-- where what is below ends -/
structure EndAt (l : List Fr) (k e : Nat) : Prop where
  lt : k < e
  le : e ≤ l.length
  below : ∀ j, k < j → j < e → dep l k < dep l j
  stop : e < l.length → dep l e ≤ dep l k
theorem end_spec {l : List Fr} (h : chk l = 0) {k : Nat} (hk : k < l.length) : ∃ e : Nat, endOf l (k : Int) = (e : Int) ∧ EndAt l k e := by
  have hx : l[k]? = some l[k] := List.getElem?_eq_getElem hk
  have hs := endFrom_spec l l[k].depth (l.length - (k + 1)) (k + 1) (by omega)
  refine ⟨endFrom l l[k].depth (l.length - (k + 1)) (k + 1), ?_, ?_⟩
  · unfold endOf
    rw [if_neg (by omega)]
    simp only [Int.toNat_natCast, hx]
  · rw [← dep_at hx] at hs ⊢
    exact ⟨by omega, hs.2.1, fun j h1 h2 => hs.2.2.1 j h1 h2, hs.2.2.2⟩
theorem last_spec (l : List Fr) (d : Int) : ∀ i : Nat, i ≤ l.length → (lastBefore l d i = -1 ∧ ∀ j, j < i → dep l j ≠ d) ∨ ∃ p : Nat, lastBefore l d i = (p : Int) ∧ p < i ∧ dep l p = d ∧ ∀ j, p < j → j < i → dep l j ≠ d
  | 0, h => .inl ⟨rfl, fun j hj => by omega⟩
  | k + 1, h => by
    have hx : l[k]? = some l[k] := List.getElem?_eq_getElem (by omega)
    have hd := dep_at hx
    unfold lastBefore
    rw [hx]
    simp only
    by_cases he : l[k].depth = d
    · rw [if_pos he]
      exact .inr ⟨k, rfl, by omega, by rw [hd, he], fun j h1 h2 => by omega⟩
    · rw [if_neg he]
      rcases last_spec l d k (by omega) with ⟨h1, h2⟩ | ⟨p, h1, h2, h3, h4⟩
      · refine .inl ⟨h1, fun j hj => ?_⟩
        by_cases e : j = k
        · rw [e, hd]; exact he
        · exact h2 j (by omega)
      · refine .inr ⟨p, h1, by omega, h3, fun j hj hl => ?_⟩
        by_cases e : j = k
        · rw [e, hd]; exact he
        · exact h4 j hj (by omega)
/-- the last one ahead of i that is no deeper than d is just so deep -/
theorem last_le {l : List Fr} (ht : TreeD l) (d : Int) (h0 : 0 ≤ d) : ∀ i : Nat, i < l.length → d < dep l i → ∃ p : Nat, p < i ∧ dep l p = d ∧ ∀ j, p < j → j ≤ i → d < dep l j
  | 0, h, hd => by have := ht.zero; omega
  | k + 1, h, hd => by
    have hs := ht.step k h
    by_cases hk : d < dep l k
    · obtain ⟨p, h1, h2, h3⟩ := last_le ht d h0 k (by omega) hk
      refine ⟨p, by omega, h2, fun j hj hl => ?_⟩
      by_cases e : j = k + 1
      · rw [e]; exact hd
      · exact h3 j hj (by omega)
    · exact ⟨k, by omega, by omega, fun j hj hl => by rw [show j = k + 1 from by omega]; exact hd⟩
structure ParAt (l : List Fr) (i p : Nat) : Prop where
  lt : p < i
  dep : dep l p = dep l i - 1
  mid : ∀ j, p < j → j ≤ i → FTr.dep l p < FTr.dep l j
theorem par_spec {l : List Fr} (h : chk l = 0) {i : Nat} (hi : i < l.length) (h0 : 0 < i) : ∃ p : Nat, parentOf l (i : Int) = (p : Int) ∧ ParAt l i p := by
  have ht := tree_of h
  have hx : l[i]? = some l[i] := List.getElem?_eq_getElem hi
  have hd := dep_at hx
  have hs := ht.step (i - 1) (by omega)
  rw [show i - 1 + 1 = i from by omega] at hs
  obtain ⟨p, h1, h2, h3⟩ := last_le ht (dep l i - 1) (by omega) i hi (by omega)
  have hp : parentOf l (i : Int) = lastBefore l (dep l i - 1) i := by
    unfold parentOf
    rw [if_neg (by omega)]
    simp only [Int.toNat_natCast, hx]
    rw [hd]
  refine ⟨p, ?_, h1, h2, fun j hj hl => by rw [h2]; exact h3 j hj hl⟩
  rw [hp]
  rcases last_spec l (dep l i - 1) i (by omega) with ⟨_, h5⟩ | ⟨q, h4, h5, h6, h7⟩
  · exact absurd h2 (h5 p h1)
  · rw [h4]
    have : q = p := by
      rcases Nat.lt_trichotomy q p with h | h | h
      · exact absurd h2 (h7 p h h1)
      · exact h
      · have := h3 q h (by omega); omega
    rw [this]
theorem par_zero {l : List Fr} (h : chk l = 0) : parentOf l 0 = -1 := by
  have ht := tree_of h
  have hx : l[0]? = some (l[0]'ht.ne) := List.getElem?_eq_getElem ht.ne
  unfold parentOf
  have := ht.ne
  rw [if_neg (by omega)]
  simp only [Int.toNat_zero, hx]
  rfl
theorem end_zero {l : List Fr} (h : chk l = 0) : endOf l 0 = (l.length : Int) := by
  have ht := tree_of h
  obtain ⟨e, he, ha⟩ := end_spec h (k := 0) ht.ne
  rw [show ((0 : Nat) : Int) = 0 from rfl] at he
  rw [he]
  by_cases hlt : e < l.length
  · have h1 := ha.stop hlt
    have h2 := ha.lt
    have h3 := ht.step (e - 1) (by omega)
    rw [show e - 1 + 1 = e from by omega] at h3
    have := ht.zero
    omega
  · have := ha.le; omega
theorem end_par {l : List Fr} {i p e f : Nat} (hp : ParAt l i p) (he : EndAt l i e) (hf : EndAt l p f) (hi : i < l.length) : e ≤ f := by
  have hd := hp.dep
  by_cases h : f < e
  · have h1 := hf.stop (by have := he.le; omega)
    rcases Nat.lt_trichotomy f i with h2 | h2 | h2
    · have := hp.mid f hf.lt (by omega); omega
    · subst h2; omega
    · have := he.below f h2 h; omega
  · omega
theorem above_par {l : List Fr} {i p f : Nat} (hp : ParAt l i p) (hf : EndAt l p f) (hi : i < l.length) : i < f := by
  have hd := hp.dep
  by_cases h : f ≤ i
  · have h1 := hf.stop (by omega)
    have := hp.mid f hf.lt h
    omega
  · omega
theorem above_only {l : List Fr} {i p k f : Nat} (hp : ParAt l i p) (hf : EndAt l k f) (hk : k < i) (ha : i < f) (hd : dep l k = dep l p) : k = p := by
  have h1 := hp.lt
  rcases Nat.lt_trichotomy k p with h | h | h
  · have := hf.below p h (by omega); omega
  · exact h
  · have := hp.mid k h (by omega); omega
theorem apart {l : List Fr} {i k a b : Nat} (ha : EndAt l i a) (hb : EndAt l k b) (h1 : i < k) (h2 : k < a) : b ≤ a := by
  by_cases h : a < b
  · have h3 := ha.stop (by have := hb.le; omega)
    have h4 := ha.below k h1 h2
    have h5 := hb.below a (by omega) h
    omega
  · omega
theorem end_one {l : List Fr} {k a b : Nat} (ha : EndAt l k a) (hb : EndAt l k b) : a = b := by
  rcases Nat.lt_trichotomy a b with h | h | h
  · have h1 := hb.below a ha.lt h
    have h2 := ha.stop (by have := hb.le; omega)
    omega
  · exact h
  · have h1 := ha.below b hb.lt h
    have h2 := hb.stop (by have := ha.le; omega)
    omega
/-- each key is found where it stands -/
theorem find_own {l : List Fr} (h : chk l = 0) {i : Nat} {f : Fr} (hx : l[i]? = some f) : findFrom f.node f.part l 0 = (i : Int) := by
  have hi := (List.getElem?_eq_some_iff.1 hx).1
  have ha := (allOk_iff l).1 (chk_ok h) i hi
  unfold okAt at ha
  rw [hx] at ha
  simp only [Bool.and_eq_true, Bool.not_eq_true', decide_eq_false_iff_not] at ha
  have h1 := findFrom_lt f.node f.part l 0 (i + 1)
  have h2 : findFrom f.node f.part l 0 < ((0 + (i + 1) : Nat) : Int) := h1.2 (.inr ⟨i, f, by omega, hx, rfl, rfl⟩)
  have h3 := ha.1.2
  omega

/-! the first so many -/
def keyF (f : Fr) : Int × Int := (f.node, f.part)
theorem ok_iff (l : List Fr) (i : Nat) : okAt l i = true ↔ ∃ f, l[i]? = some f ∧ mayB f = true ∧ keyF f ∉ (l.take i).map keyF ∧ (if i = 0 then f.depth = 0 else ∃ g, l[i - 1]? = some g ∧ 1 ≤ f.depth ∧ f.depth ≤ g.depth + 1) := by
  unfold okAt
  cases hx : l[i]? with
  | none => simp
  | some f =>
    have hf := find_ahead hx
    have hk : keyF f ∉ (l.take i).map keyF ↔ ¬ findFrom f.node f.part l 0 < (i : Int) := not_congr hf.symm
    simp only [Bool.and_eq_true, Bool.not_eq_true', decide_eq_false_iff_not, Option.some.injEq, exists_eq_left', ← hk, and_assoc]
    by_cases h0 : i = 0
    · simp [h0]
    · simp only [if_neg h0]
      cases hg : l[i - 1]? with
      | none => simp
      | some g => simp [rng_iff]
theorem take_ok {l : List Fr} {n i : Nat} (h : okAt l i = true) (hi : i < n) : okAt (l.take n) i = true := by
  rw [ok_iff] at h ⊢
  obtain ⟨f, h1, h2, h3, h4⟩ := h
  refine ⟨f, by rw [List.getElem?_take_of_lt hi]; exact h1, h2, by rw [List.take_take, Nat.min_eq_left (by omega)]; exact h3, ?_⟩
  by_cases h0 : i = 0
  · rw [if_pos h0] at h4 ⊢; exact h4
  · rw [if_neg h0] at h4 ⊢
    obtain ⟨g, h5, h6⟩ := h4
    exact ⟨g, by rw [List.getElem?_take_of_lt (by omega)]; exact h5, h6⟩
theorem chk_take {l : List Fr} (h : chk l = 0) {n : Nat} (h1 : 1 ≤ n) (h2 : n ≤ l.length) : chk (l.take n) = 0 := by
  have ht := tree_of h
  have hl : (l.take n).length = n := by rw [List.length_take]; omega
  refine chk_zero (by omega) (by have := ht.le; omega) ((allOk_iff _).2 fun k hk => ?_)
  exact take_ok ((allOk_iff l).1 (chk_ok h) k (by omega)) (by omega)

/-! what is below one, with it -/
def lift (d : Int) (f : Fr) : Fr := ⟨f.node, f.part, f.depth - d, f.x, f.y, f.w, f.h, f.text⟩
def belowL (l : List Fr) (i e : Nat) : List Fr := ((l.drop i).take (e - i)).map (lift (dep l i))
theorem below_at {l : List Fr} {i e j : Nat} (hj : i + j < e) : (belowL l i e)[j]? = (l[i + j]?).map (lift (dep l i)) := by
  unfold belowL
  rw [List.getElem?_map, List.getElem?_take_of_lt (by omega), List.getElem?_drop]
theorem below_len {l : List Fr} {i e : Nat} (he : e ≤ l.length) : (belowL l i e).length = e - i := by
  unfold belowL
  rw [List.length_map, List.length_take, List.length_drop]; omega
theorem chk_below {l : List Fr} (h : chk l = 0) {i e : Nat} (he : EndAt l i e) : chk (belowL l i e) = 0 := by
  have ht := tree_of h
  have h1 := he.lt
  have h2 := he.le
  have h3 := ht.le
  have hl := below_len (i := i) h2
  refine chk_zero (by omega) (by omega) ((allOk_iff _).2 fun j hj => ?_)
  rw [hl] at hj
  have hk := (ok_iff l (i + j)).1 ((allOk_iff l).1 (chk_ok h) (i + j) (by omega))
  obtain ⟨f, k1, k2, k3, k4⟩ := hk
  have hdf := dep_at k1
  have hdi : dep l i ≤ f.depth := by
    by_cases hj0 : j = 0
    · subst hj0; rw [← hdf]; exact Int.le_refl _
    · have := he.below (i + j) (by omega) (by omega); omega
  have hd0 : 0 ≤ dep l i := by
    have hk := (ok_iff l i).1 ((allOk_iff l).1 (chk_ok h) i (by omega))
    obtain ⟨g, g1, g2, _⟩ := hk
    rw [dep_at g1]
    exact (may_all g2).2.2.1.1
  rw [ok_iff]
  refine ⟨lift (dep l i) f, by rw [below_at (by omega), k1]; rfl, ?_, ?_, ?_⟩
  · have ha := may_all k2
    simp only [mayB, Bool.and_eq_true, rng_iff, decide_eq_true_eq, lift]
    exact ⟨⟨⟨⟨⟨⟨⟨ha.1, ha.2.1⟩, by omega⟩, ha.2.2.2.1⟩, ha.2.2.2.2.1⟩, ha.2.2.2.2.2.1⟩, ha.2.2.2.2.2.2.1⟩, decide_eq_true ha.2.2.2.2.2.2.2⟩
  · intro hm
    refine k3 ?_
    unfold belowL at hm
    rw [← List.map_take, List.map_map, List.take_take, Nat.min_eq_left (by omega)] at hm
    rw [show (keyF ∘ lift (dep l i)) = keyF from rfl] at hm
    have e2 : l.take (i + j) = l.take i ++ (l.drop i).take j := List.take_add
    rw [e2, List.map_append]
    exact List.mem_append.2 (.inr hm)
  · by_cases hj0 : j = 0
    · subst hj0
      rw [if_pos rfl]
      rw [Nat.add_zero] at k1
      simp only [lift, dep_at k1, Int.sub_self]
    · rw [if_neg hj0]
      rw [if_neg (by omega)] at k4
      obtain ⟨g, g1, g2, g3⟩ := k4
      have hb := he.below (i + j) (by omega) (by omega)
      refine ⟨lift (dep l i) g, by rw [below_at (by omega), show i + (j - 1) = i + j - 1 from by omega, g1]; rfl, ?_, ?_⟩
      · simp only [lift]; omega
      · simp only [lift]; omega

/-! spoilt -/
theorem chk_not {l : List Fr} {i : Nat} (hi : i < l.length) (h2 : l.length ≤ 2048) (h : okAt l i = false) : chk l = 200 := by
  unfold chk
  rw [if_neg (by omega)]
  split
  · rfl
  · rw [if_neg]
    intro ha
    have := (allOk_iff l).1 ha i hi
    rw [h] at this; cases this
theorem set_bad {l : List Fr} (h : chk l = 0) {i : Nat} (hi : i < l.length) {f : Fr} (hf : mayB f = false ∨ (0 < i ∧ ∃ g, l[i - 1]? = some g ∧ (f.depth < 1 ∨ g.depth + 1 < f.depth ∨ keyF f = keyF g)) ∨ (i = 0 ∧ f.depth ≠ 0)) : chk (l.set i f) = 200 := by
  have ht := tree_of h
  refine chk_not (i := i) (by simpa using hi) (by simpa using ht.le) ?_
  rw [Bool.eq_false_iff]
  intro hc
  obtain ⟨f', h1, h2, h3, h4⟩ := (ok_iff _ _).1 hc
  have hx : (l.set i f)[i]? = some f := by rw [List.getElem?_set_self hi]
  rw [hx] at h1
  cases h1
  rcases hf with hf | ⟨h0, g, hg, hf⟩ | ⟨h0, hf⟩
  · rw [hf] at h2; cases h2
  · rw [if_neg (by omega)] at h4
    obtain ⟨g', hg', h5⟩ := h4
    rw [List.getElem?_set_ne (by omega), hg] at hg'
    cases hg'
    rcases hf with hf | hf | hf
    · omega
    · omega
    · refine h3 ?_
      rw [List.mem_map]
      refine ⟨g, ?_, hf.symm⟩
      exact List.mem_of_getElem? (i := i - 1) (by rw [List.getElem?_take_of_lt (by omega), List.getElem?_set_ne (by omega)]; exact hg)
  · rw [if_pos h0] at h4
    exact hf h4
end Go.Proofs.Ytoneechcclndaaa.FTr
