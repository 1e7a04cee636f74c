/- diff: lowest bits; a tree of maxima over numbers, plainly. -/
import Derived.WalkKit
import Derived.Lib.Hide
namespace Go.Proofs.Ytiljpbncfofnhaa.Dif
open Go.RowKit
set_option linter.unusedVariables false
set_option linter.unusedSimpArgs false

/-- the lowest bit of a number -/
def lb (k : Nat) : Nat := if k = 0 then 0 else if k % 2 = 1 then 1 else 2 * lb (k / 2)
termination_by k
decreasing_by omega
theorem lb_zero : lb 0 = 0 := by unfold lb; simp
theorem lb_odd {k : Nat} (h : k % 2 = 1) : lb k = 1 := by unfold lb; rw [if_neg (by omega), if_pos h]
theorem lb_even {k : Nat} (h0 : 0 < k) (h : k % 2 = 0) : lb k = 2 * lb (k / 2) := by rw [lb]; rw [if_neg (by omega), if_neg (by omega)]
theorem lb_pos : ∀ (k : Nat), 0 < k → 0 < lb k ∧ lb k ≤ k := by
  intro k
  induction k using Nat.strongRecOn with
  | _ k ih =>
    intro h0
    by_cases h : k % 2 = 1
    · rw [lb_odd h]; omega
    · rw [lb_even h0 (by omega)]
      have := ih (k / 2) (by omega) (by omega)
      omega
/-- whoever lies above k - lb k and below k has its next one at most at k -/
theorem lb_next : ∀ (k p : Nat), k - lb k < p → p < k → p + lb p ≤ k := by
  intro k
  induction k using Nat.strongRecOn with
  | _ k ih =>
    intro p h1 h2
    by_cases h : k % 2 = 1
    · rw [lb_odd h] at h1; omega
    · have h0 : 0 < k := by omega
      rw [lb_even h0 (by omega)] at h1
      by_cases hp : p % 2 = 1
      · rw [lb_odd hp]; omega
      · have hp0 : 0 < p := by omega
        rw [lb_even hp0 (by omega)]
        have := ih (k / 2) (by omega) (p / 2) (by omega) (by omega)
        omega
def lbF : Nat → Nat → Nat
  | 0, _ => 0
  | f + 1, k => if k = 0 then 0 else if k % 2 = 1 then 1 else 2 * lbF f (k / 2)
theorem lbF_eq : ∀ (f k : Nat), k < 2 ^ f → lbF f k = lb k
  | 0, k, h => by
    have : k = 0 := by simpa using h
    subst this; rw [lb_zero]; rfl
  | f + 1, k, h => by
    unfold lbF
    by_cases h0 : k = 0
    · subst h0; rw [if_pos rfl, lb_zero]
    · rw [if_neg h0]
      by_cases h1 : k % 2 = 1
      · rw [if_pos h1, lb_odd h1]
      · rw [if_neg h1, lb_even (by omega) (by omega), lbF_eq f (k / 2) (by rw [Nat.pow_succ] at h; omega)]
theorem bits_small : ∀ n : Fin 2100, (n.val = 0 ∨ (bits BinOp.and IntKind.i64 (n.val : Int) (-(n.val : Int)) = ((lbF 12 n.val : Nat) : Int) ∧ bits BinOp.and IntKind.i64 (n.val : Int) ((n.val : Int) - 1) = ((n.val - lbF 12 n.val : Nat) : Int))) := by decide +kernel
theorem lb_bits {n : Nat} (h0 : 0 < n) (h : n < 2100) : bits BinOp.and IntKind.i64 (n : Int) (-(n : Int)) = ((lb n : Nat) : Int) ∧ bits BinOp.and IntKind.i64 (n : Int) ((n : Int) - 1) = ((n - lb n : Nat) : Int) := by
  rcases bits_small ⟨n, h⟩ with h1 | h1
  · simp only at h1; omega
  · rw [lbF_eq 12 n (by omega)] at h1
    exact h1
/-! ### the tree -/
/-- best holds what has been counted, vals: at k, of those from k - lb k on (not it) to k, the greatest or more; and nothing but what was counted at k or below -/
structure Fen (n : Nat) (best : List Nat) (vals : List (Nat × Nat)) : Prop where
  len : best.length = n + 1
  up : ∀ k x, x ∈ vals → 0 < k → k ≤ n → k - lb k < x.1 → x.1 ≤ k → x.2 ≤ best.getD k 0
  met : ∀ k, k ≤ n → best.getD k 0 = 0 ∨ ∃ x ∈ vals, 0 < x.1 ∧ x.1 ≤ k ∧ x.2 = best.getD k 0
theorem Fen.zero (n : Nat) : Fen n (List.replicate (n + 1) 0) [] := ⟨by simp, fun k x h => (by cases h), fun k hk => .inl (by rw [List.getD_eq_getElem?_getD, List.getElem?_replicate, if_pos (by omega)]; rfl)⟩
/-- the greatest of the first ones, as the tree is asked -/
def ask (best : List Nat) (k : Nat) (long : Nat) : Nat := if h : k = 0 then long else ask best (k - lb k) (max long (best.getD k 0))
termination_by k
decreasing_by have := lb_pos k (by omega); omega
theorem ask_zero (best : List Nat) (long : Nat) : ask best 0 long = long := by unfold ask; simp
theorem ask_step (best : List Nat) {k : Nat} (long : Nat) (h : 0 < k) : ask best k long = ask best (k - lb k) (max long (best.getD k 0)) := by rw [ask]; rw [dif_neg (by omega)]
theorem ask_ge (best : List Nat) : ∀ (k long : Nat), long ≤ ask best k long := by
  intro k
  induction k using Nat.strongRecOn with
  | _ k ih =>
    intro long
    by_cases h : k = 0
    · subst h; rw [ask_zero]; omega
    · rw [ask_step best long (by omega)]
      have h1 := lb_pos k (by omega)
      have := ih (k - lb k) (by omega) (max long (best.getD k 0))
      omega
theorem ask_up {n : Nat} {best : List Nat} {vals : List (Nat × Nat)} (hF : Fen n best vals) : ∀ (k long : Nat) (x : Nat × Nat), x ∈ vals → k ≤ n → 0 < x.1 → x.1 ≤ k → x.2 ≤ ask best k long := by
  intro k
  induction k using Nat.strongRecOn with
  | _ k ih =>
    intro long x hx hk h0 hp
    rw [ask_step best long (by omega)]
    have h1 := lb_pos k (by omega)
    by_cases hc : k - lb k < x.1
    · have h2 := hF.up k x hx (by omega) hk hc hp
      have h3 := ask_ge best (k - lb k) (max long (best.getD k 0))
      omega
    · exact ih (k - lb k) (by omega) _ x hx (by omega) h0 (by omega)
theorem ask_met {n : Nat} {best : List Nat} {vals : List (Nat × Nat)} (hF : Fen n best vals) : ∀ (k long : Nat), k ≤ n → ask best k long = long ∨ ∃ x ∈ vals, 0 < x.1 ∧ x.1 ≤ k ∧ x.2 = ask best k long := by
  intro k
  induction k using Nat.strongRecOn with
  | _ k ih =>
    intro long hk
    by_cases h : k = 0
    · subst h; rw [ask_zero]; exact .inl rfl
    · rw [ask_step best long (by omega)]
      have h1 := lb_pos k (by omega)
      rcases ih (k - lb k) (by omega) (max long (best.getD k 0)) (by omega) with h2 | ⟨x, hx, hp0, hp, h2⟩
      · rw [h2]
        by_cases hm : long ≤ best.getD k 0
        · rw [Nat.max_eq_right hm]
          rcases hF.met k hk with h3 | ⟨x, hx, a, b, c⟩
          · left; omega
          · exact .inr ⟨x, hx, a, b, c⟩
        · left; omega
      · exact .inr ⟨x, hx, hp0, by omega, h2⟩
/-- a number counted: what is told of it is written where it must be -/
def put (n : Nat) (best : List Nat) (k v : Nat) : List Nat := if h : k = 0 ∨ n < k then best else put n (best.set k (max (best.getD k 0) v)) (k + lb k) v
termination_by n + 1 - k
decreasing_by have := lb_pos k (by omega); omega
theorem put_end {n : Nat} (best : List Nat) {k : Nat} (v : Nat) (h : n < k) : put n best k v = best := by unfold put; rw [dif_pos (.inr h)]
theorem put_step {n : Nat} (best : List Nat) {k : Nat} (v : Nat) (h0 : 0 < k) (h : k ≤ n) : put n best k v = put n (best.set k (max (best.getD k 0) v)) (k + lb k) v := by rw [put]; rw [dif_neg (by omega)]
theorem getD_set (l : List Nat) (i j v : Nat) (hj : j < l.length) : (l.set j v).getD i 0 = if i = j then v else l.getD i 0 := by
  simp only [List.getD_eq_getElem?_getD, List.getElem?_set]
  by_cases h : j = i
  · subst h; simp [hj]
  · rw [if_neg h, if_neg (by omega)]
theorem put_len {n : Nat} : ∀ (m k v : Nat) (best : List Nat), n + 1 - k ≤ m → (put n best k v).length = best.length := by
  intro m
  induction m with
  | zero => intro k v best h; rw [put_end best v (by omega)]
  | succ m ih =>
    intro k v best h
    by_cases hc : k = 0 ∨ n < k
    · unfold put; rw [dif_pos hc]
    · rw [put_step best v (by omega) (by omega), ih _ _ _ (by have := lb_pos k (by omega); omega), List.length_set]
/-- each cell is what it was or has the new value besides; it has that just where p lies in its reach -/
theorem put_at {n : Nat} : ∀ (m k v : Nat) (best : List Nat), n + 1 - k ≤ m → best.length = n + 1 → 0 < k → ∀ i, i ≤ n →
    best.getD i 0 ≤ (put n best k v).getD i 0 ∧ ((put n best k v).getD i 0 = best.getD i 0 ∨ ((put n best k v).getD i 0 = v ∧ k ≤ i)) ∧ (i - lb i < k → k ≤ i → v ≤ (put n best k v).getD i 0) := by
  intro m
  induction m with
  | zero => intro k v best h hl h0 i hi; rw [put_end best v (by omega)]; exact ⟨Nat.le_refl _, .inl rfl, fun _ h => by omega⟩
  | succ m ih =>
    intro k v best h hl h0 i hi
    by_cases hc : n < k
    · rw [put_end best v hc]; exact ⟨Nat.le_refl _, .inl rfl, fun _ h => by omega⟩
    · rw [put_step best v h0 (by omega)]
      have hp := lb_pos k h0
      obtain ⟨a, b, c⟩ := ih (k + lb k) v (best.set k (max (best.getD k 0) v)) (by omega) (by rw [List.length_set]; exact hl) (by omega) i hi
      rw [getD_set best i k _ (by omega)] at a b
      by_cases hik : i = k
      · subst hik
        rw [if_pos rfl] at a b
        refine ⟨by omega, ?_, fun _ _ => by omega⟩
        rcases b with b | b
        · by_cases hm : v ≤ best.getD i 0
          · left; omega
          · right; omega
        · right; omega
      · rw [if_neg hik] at a b
        refine ⟨a, ?_, fun h1 h2 => ?_⟩
        · rcases b with b | b
          · exact .inl b
          · exact .inr ⟨b.1, by omega⟩
        · have := lb_next i k h1 (by omega)
          exact c (by omega) this
/-- the tree, with v at p besides -/
theorem Fen.put {n : Nat} {best : List Nat} {vals : List (Nat × Nat)} (hF : Fen n best vals) {p v : Nat} (h0 : 0 < p) (hp : p ≤ n) : Fen n (put n best p v) ((p, v) :: vals) := by
  have hat := put_at (n + 1 - p) p v best (Nat.le_refl _) hF.len h0
  refine ⟨by rw [put_len (n + 1 - p) p v best (Nat.le_refl _)]; exact hF.len, fun k x hx hk0 hk h1 h2 => ?_, fun k hk => ?_⟩
  · obtain ⟨a, b, c⟩ := hat k hk
    rcases List.mem_cons.1 hx with rfl | hx
    · exact c h1 h2
    · have := hF.up k x hx hk0 hk h1 h2
      omega
  · obtain ⟨a, b, c⟩ := hat k hk
    rcases b with b | ⟨b1, b2⟩
    · rw [b]
      rcases hF.met k hk with h3 | ⟨x, hx, q1, q2, q3⟩
      · exact .inl h3
      · exact .inr ⟨x, List.mem_cons_of_mem _ hx, q1, q2, q3⟩
    · exact .inr ⟨(p, v), List.mem_cons_self, h0, b2, b1.symm⟩
/-- what is told of a number that begins a chain: one more than the longest one counted of greater numbers -/
def longOf (vals : List (Nat × Nat)) (i : Nat) : Nat := vals.foldr (fun x m => if i < x.1 then max x.2 m else m) 0
theorem longOf_ge {vals : List (Nat × Nat)} {i : Nat} : ∀ x ∈ vals, i < x.1 → x.2 ≤ longOf vals i := by
  induction vals with
  | nil => intro x h; cases h
  | cons y r ih =>
    intro x h hi
    simp only [longOf, List.foldr_cons]
    rcases List.mem_cons.1 h with rfl | h
    · rw [if_pos hi]; omega
    · have := ih x h hi
      simp only [longOf] at this
      split <;> omega
theorem longOf_met (vals : List (Nat × Nat)) (i : Nat) : longOf vals i = 0 ∨ ∃ x ∈ vals, i < x.1 ∧ x.2 = longOf vals i := by
  induction vals with
  | nil => exact .inl rfl
  | cons y r ih =>
    have e : longOf (y :: r) i = if i < y.1 then max y.2 (longOf r i) else longOf r i := rfl
    rw [e]
    by_cases hi : i < y.1
    · rw [if_pos hi]
      by_cases hm : longOf r i ≤ y.2
      · exact .inr ⟨y, List.mem_cons_self, hi, by omega⟩
      · rcases ih with h | ⟨x, hx, a, b⟩
        · omega
        · exact .inr ⟨x, List.mem_cons_of_mem _ hx, a, by omega⟩
    · rw [if_neg hi]
      rcases ih with h | ⟨x, hx, a, b⟩
      · exact .inl h
      · exact .inr ⟨x, List.mem_cons_of_mem _ hx, a, b⟩
/-- numbers below n, turned about, are asked of the tree -/
theorem ask_long {n : Nat} {best : List Nat} {vals : List (Nat × Nat)} (hv : ∀ x ∈ vals, x.1 < n) (hF : Fen n best (vals.map fun x => (n - x.1, x.2))) {i : Nat} (hi : i < n) : ask best (n - 1 - i) 0 = longOf vals i := by
  apply Nat.le_antisymm
  · rcases ask_met hF (n - 1 - i) 0 (by omega) with h | ⟨x, hx, a, b, c⟩
    · rw [h]; omega
    · obtain ⟨y, hy, rfl⟩ := List.mem_map.1 hx
      have := hv y hy
      simp only at a b c
      rw [← c]
      exact longOf_ge y hy (by omega)
  · rcases longOf_met vals i with h | ⟨x, hx, a, b⟩
    · rw [h]; omega
    · rw [← b]
      have := hv x hx
      exact ask_up hF (n - 1 - i) 0 (n - x.1, x.2) (List.mem_map.2 ⟨x, hx, rfl⟩) (by omega) (by simp only; omega) (by simp only; omega)
end Go.Proofs.Ytiljpbncfofnhaa.Dif
