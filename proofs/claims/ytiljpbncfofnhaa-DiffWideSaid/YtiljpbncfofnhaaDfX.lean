/- diff: wide trees, plainly. -/
import Derived.Test.YtiljpbncfofnhaaDfU
namespace Go.Proofs.Ytiljpbncfofnhaa.Dif
open Go.RowKit FragA FragB MayA Tree EdC EdB EdF
set_option linter.unusedVariables false
set_option linter.unusedSimpArgs false

/-- a first fragment of Depth 0, others of Depth 1, each with a Node of its own: a tree -/
theorem chk_flat {l : List Fr} (h1 : 0 < l.length) (h2 : l.length ≤ 2048) (hm : ∀ (k : Nat) (f : Fr), l[k]? = some f → mayB f = true ∧ f.depth = (if k = 0 then 0 else 1)) (hk : ∀ (i j : Nat) (f g : Fr), l[i]? = some f → l[j]? = some g → f.node = g.node → i = j) : chk l = 0 := by
  unfold chk
  rw [if_neg (by omega), if_neg (by omega), if_pos]
  rw [allOk_iff]
  intro k hkl
  obtain ⟨f, hf⟩ : ∃ f, l[k]? = some f := ⟨_, List.getElem?_eq_getElem hkl⟩
  obtain ⟨m1, m2⟩ := hm k f hf
  unfold okAt
  rw [hf]
  simp only [Bool.and_eq_true]
  refine ⟨⟨m1, ?_⟩, ?_⟩
  · simp only [Bool.not_eq_true', decide_eq_false_iff_not]
    intro hlt
    by_cases hn : 0 ≤ findFrom f.node f.part l 0
    · obtain ⟨i, g, e1, e2, e3, _⟩ := find_at (nd := f.node) (p := f.part) l 0 hn
      have := hk i k g f e2 hf e3
      omega
    · have hpos : ∀ (l : List Fr) (q i : Nat) (g : Fr), l[i]? = some g → g.node = f.node → g.part = f.part → 0 ≤ findFrom f.node f.part l q := by
        intro l
        induction l with
        | nil => intro q i g h; simp at h
        | cons x l ih =>
          intro q i g h e1 e2
          rw [findFrom]
          split
          · omega
          · rename_i hc
            rcases i with _ | i
            · simp at h; subst h; exact absurd (by simp [e1, e2]) hc
            · exact ih (q + 1) i g (by simpa using h) e1 e2
      exact absurd (hpos l 0 k f hf rfl rfl) hn
  · by_cases h0 : k = 0
    · rw [if_pos h0]
      rw [if_pos h0] at m2
      simp [m2]
    · rw [if_neg h0]
      rw [if_neg h0] at m2
      obtain ⟨g, hg⟩ : ∃ g, l[k - 1]? = some g := ⟨_, List.getElem?_eq_getElem (by omega)⟩
      obtain ⟨_, d2⟩ := hm (k - 1) g hg
      rw [hg]
      simp only
      rw [rng_iff, m2]
      split at d2 <;> omega
theorem mod_two {a m : Nat} (h : a < 2 * m) : a % m = if a < m then a else a - m := by
  split
  · exact Nat.mod_eq_of_lt ‹_›
  · rw [Nat.mod_eq_sub_mod (by omega), Nat.mod_eq_of_lt (by omega)]
/-- where fragment i goes, and which one comes to place k -/
def wideP (n on i : Nat) : Nat := 1 + (i - 1 + on) % (n - 1)
def wideI (n on k : Nat) : Nat := 1 + (k - 1 + (n - 1) - on) % (n - 1)
theorem wide_pi {n on i : Nat} (h1 : 1 ≤ i) (h2 : i < n) (ho : on < n - 1) : 1 ≤ wideP n on i ∧ wideP n on i < n ∧ wideI n on (wideP n on i) = i := by
  unfold wideI wideP
  have e := mod_two (a := i - 1 + on) (m := n - 1) (by omega)
  rw [e]
  split
  · have e2 := mod_two (a := 1 + (i - 1 + on) - 1 + (n - 1) - on) (m := n - 1) (by omega)
    rw [e2]
    refine ⟨by omega, by omega, ?_⟩
    split <;> omega
  · have e2 := mod_two (a := 1 + (i - 1 + on - (n - 1)) - 1 + (n - 1) - on) (m := n - 1) (by omega)
    rw [e2]
    refine ⟨by omega, by omega, ?_⟩
    split <;> omega
theorem wide_ip {n on k : Nat} (h1 : 1 ≤ k) (h2 : k < n) (ho : on < n - 1) : 1 ≤ wideI n on k ∧ wideI n on k < n ∧ wideP n on (wideI n on k) = k := by
  unfold wideI wideP
  have e := mod_two (a := k - 1 + (n - 1) - on) (m := n - 1) (by omega)
  rw [e]
  split
  · have e2 := mod_two (a := 1 + (k - 1 + (n - 1) - on) - 1 + on) (m := n - 1) (by omega)
    rw [e2]
    refine ⟨by omega, by omega, ?_⟩
    split <;> omega
  · have e2 := mod_two (a := 1 + (k - 1 + (n - 1) - on - (n - 1)) - 1 + on) (m := n - 1) (by omega)
    rw [e2]
    refine ⟨by omega, by omega, ?_⟩
    split <;> omega
def frN (i : Nat) (x : Int) : Fr := ⟨(i : Int), 0, 1, x, 0, 0, 0, ByteArray.empty⟩
def frB (i ev : Nat) : Fr := frN i (if i % ev = 0 then (i : Int) else 0)
/-- the rows, fragments below m being put -/
def wideA (n m : Nat) : List Fr := (List.range n).map fun k => if k = 0 then Fr.z else if k < m then frN k 0 else Fr.z
def wideB (n on ev m : Nat) : List Fr := (List.range n).map fun k => if k = 0 then Fr.z else if wideI n on k < m then frB (wideI n on k) ev else Fr.z
theorem wideA_at {n m k : Nat} (h : k < n) : (wideA n m)[k]? = some (if k = 0 then Fr.z else if k < m then frN k 0 else Fr.z) := by
  rw [wideA, List.getElem?_map, List.getElem?_range h]; rfl
theorem wideB_at {n on ev m k : Nat} (h : k < n) : (wideB n on ev m)[k]? = some (if k = 0 then Fr.z else if wideI n on k < m then frB (wideI n on k) ev else Fr.z) := by
  rw [wideB, List.getElem?_map, List.getElem?_range h]; rfl
theorem wideA_next {n m : Nat} (h1 : 1 ≤ m) (h2 : m < n) : (wideA n m).set m (frN m 0) = wideA n (m + 1) := by
  apply List.ext_getElem?
  intro k
  rw [List.getElem?_set]
  by_cases hk : k < n
  · rw [wideA_at hk, wideA_at hk]
    by_cases e : m = k
    · subst e
      rw [if_pos rfl, if_pos (by simp [wideA]; omega), if_neg (by omega), if_pos (by omega)]
    · rw [if_neg e]
      split
      · rfl
      · by_cases hlt : k < m
        · rw [if_pos hlt, if_pos (by omega)]
        · rw [if_neg hlt, if_neg (by omega)]
  · rw [if_neg (by omega), List.getElem?_eq_none (by simp [wideA]; omega), List.getElem?_eq_none (by simp [wideA]; omega)]
theorem wideB_next {n on ev m : Nat} (h1 : 1 ≤ m) (h2 : m < n) (ho : on < n - 1) : (wideB n on ev m).set (wideP n on m) (frB m ev) = wideB n on ev (m + 1) := by
  obtain ⟨p1, p2, p3⟩ := wide_pi h1 h2 ho
  apply List.ext_getElem?
  intro k
  rw [List.getElem?_set]
  by_cases hk : k < n
  · rw [wideB_at hk, wideB_at hk]
    by_cases e : wideP n on m = k
    · rw [if_pos e, if_pos (by simp [wideB]; omega), if_neg (by omega), ← e, p3, if_pos (by omega)]
    · rw [if_neg e]
      split
      · rfl
      · rename_i hk0
        have hne : wideI n on k ≠ m := fun h => e (by rw [← h]; exact (wide_ip (by omega) hk ho).2.2)
        by_cases hlt : wideI n on k < m
        · rw [if_pos hlt, if_pos (by omega)]
        · rw [if_neg hlt, if_neg (by omega)]
  · rw [if_neg (by omega), List.getElem?_eq_none (by simp [wideB]; omega), List.getElem?_eq_none (by simp [wideB]; omega)]
theorem frN_may {i : Nat} {x : Int} (h : i ≤ 5000) (h1 : 0 ≤ x) (h2 : x ≤ 5000) : mayB (frN i x) = true := by
  have a1 : rng 0 1099511627776 (i : Int) = true := by rw [rng_iff]; omega
  have a2 : rng 0 1099511627776 0 = true := by decide
  have a3 : rng 0 2048 1 = true := by decide
  have a4 : rng (-1099511627776) 1099511627776 x = true := by rw [rng_iff]; omega
  have a5 : rng (-1099511627776) 1099511627776 0 = true := by decide
  simp only [mayB, frN, a1, a2, a3, a4, a5, Bool.true_and]
  rfl
theorem frB_may {i ev : Nat} (h : i ≤ 5000) : mayB (frB i ev) = true := by
  unfold frB
  split <;> exact frN_may h (by omega) (by omega)
theorem wideA_chk {n : Nat} (h1 : 2 ≤ n) (h2 : n ≤ 402) : chk (wideA n n) = 0 := by
  have hl : (wideA n n).length = n := by simp [wideA]
  have hat : ∀ (k : Nat) (f : Fr), (wideA n n)[k]? = some f → k < n ∧ f = (if k = 0 then Fr.z else frN k 0) := by
    intro k f hf
    have hk : k < n := by have := (List.getElem?_eq_some_iff.1 hf).1; omega
    rw [wideA_at hk] at hf
    injection hf with hf
    refine ⟨hk, ?_⟩
    rw [← hf]
    by_cases e : k = 0
    · rw [if_pos e, if_pos e]
    · rw [if_neg e, if_neg e, if_pos hk]
  refine chk_flat (by omega) (by omega) (fun k f hf => ?_) (fun i j f g hf hg he => ?_)
  · obtain ⟨hk, rfl⟩ := hat k f hf
    split
    · exact ⟨mayZ, rfl⟩
    · exact ⟨frN_may (by omega) (by omega) (by omega), rfl⟩
  · obtain ⟨hi, rfl⟩ := hat i f hf
    obtain ⟨hj, rfl⟩ := hat j g hg
    by_cases e1 : i = 0 <;> by_cases e2 : j = 0 <;> simp [e1, e2, frN, Fr.z] at he ⊢ <;> omega
theorem wideB_chk {n on ev : Nat} (h1 : 2 ≤ n) (h2 : n ≤ 402) (ho : on < n - 1) : chk (wideB n on ev n) = 0 := by
  have hl : (wideB n on ev n).length = n := by simp [wideB]
  have hat : ∀ (k : Nat) (f : Fr), (wideB n on ev n)[k]? = some f → k < n ∧ f = (if k = 0 then Fr.z else frB (wideI n on k) ev) := by
    intro k f hf
    have hk : k < n := by have := (List.getElem?_eq_some_iff.1 hf).1; omega
    rw [wideB_at hk] at hf
    injection hf with hf
    refine ⟨hk, ?_⟩
    rw [← hf]
    split
    · rfl
    · rename_i hk0
      rw [if_pos (wide_ip (by omega) hk ho).2.1]
  refine chk_flat (by omega) (by omega) (fun k f hf => ?_) (fun i j f g hf hg he => ?_)
  · obtain ⟨hk, rfl⟩ := hat k f hf
    split
    · exact ⟨mayZ, rfl⟩
    · have := (wide_ip (k := k) (by omega) hk ho).2.1
      exact ⟨frB_may (by omega), by unfold frB; split <;> rfl⟩
  · obtain ⟨hi, rfl⟩ := hat i f hf
    obtain ⟨hj, rfl⟩ := hat j g hg
    have hn : ∀ q, (frB q ev).node = (q : Int) := fun q => by unfold frB; split <;> rfl
    by_cases e1 : i = 0
    · by_cases e2 : j = 0
      · omega
      · rw [if_pos e1, if_neg e2, hn] at he
        have := (wide_ip (k := j) (by omega) hj ho).1
        simp only [Fr.z] at he
        omega
    · by_cases e2 : j = 0
      · rw [if_neg e1, if_pos e2, hn] at he
        have := (wide_ip (k := i) (by omega) hi ho).1
        simp only [Fr.z] at he
        omega
      · rw [if_neg e1, if_neg e2, hn, hn] at he
        have q1 := (wide_ip (k := i) (by omega) hi ho).2.2
        have q2 := (wide_ip (k := j) (by omega) hj ho).2.2
        have he' : wideI n on i = wideI n on j := by omega
        rw [← q1, ← q2, he']
theorem may_wf {f : Fr} (h : mayB f = true) : f.Wf := by
  obtain ⟨p1, p2, p3, p4, p5, p6, p7, p8⟩ := may_parts h
  rw [rng_iff] at p1 p2 p3 p4 p5 p6 p7
  exact ⟨WalkArith.wf_i64 (by omega), WalkArith.wf_i64 (by omega), WalkArith.wf_i64 (by omega), WalkArith.wf_i64 (by omega), WalkArith.wf_i64 (by omega), WalkArith.wf_i64 (by omega), WalkArith.wf_i64 (by omega), by omega⟩
theorem chk_wf {l : List Fr} (h : chk l = 0) : FrsWf l := fun f hf => may_wf (may_of_chk h f hf)
end Go.Proofs.Ytiljpbncfofnhaa.Dif
