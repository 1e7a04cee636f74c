/- frag, plainly: the document's numbers; how long a form is; the rows of FragMost. -/
import Derived.Test.YtoneechcclndaaaFrT
namespace Go.Proofs.Ytoneechcclndaaa.FForm
open Go.Proofs.Ytoneechcclndaaa.Word Go.Proofs.Ytoneechcclndaaa.Wire MayA FragA FragB Tree lawTorn FTr
set_option linter.unusedVariables false
set_option linter.unusedSimpArgs false

def natR (v : WV) : Int := if 1099511627776 < v.n then -1 else (v.n : Int)
theorem nat_num (v : WV) : natR v = numV v ∧ 0 ≤ natR v ∧ natR v ≤ 1099511627776 ∨ natR v = -1 ∧ numV v = 1099511627777 := by
  unfold natR numV
  by_cases h : 1099511627776 < v.n
  · right; rw [if_pos h]; exact ⟨rfl, by omega⟩
  · left; rw [if_neg h]; omega
theorem of_may1 {v : List WV} (h : mayB (ofG natR v) = true) : ofG natR v = ofG numV v := by
  have h1 := may_all h
  simp only [ofG] at h1 ⊢
  rcases nat_num (v.getD 0 wv0) with h2 | h2 <;> rcases nat_num (v.getD 1 wv0) with h3 | h3 <;> rcases nat_num (v.getD 2 wv0) with h4 | h4 <;> (first | (rw [h2.1, h3.1, h4.1]; done) | omega)
theorem of_may2 {v : List WV} (h : mayB (ofG numV v) = true) : ofG natR v = ofG numV v := by
  have h1 := may_all h
  simp only [ofG] at h1 ⊢
  rcases nat_num (v.getD 0 wv0) with h2 | h2 <;> rcases nat_num (v.getD 1 wv0) with h3 | h3 <;> rcases nat_num (v.getD 2 wv0) with h4 | h4 <;> (first | (rw [h2.1, h3.1, h4.1]; done) | omega)
/-- the document's numbers tell the same trees -/
theorem parse_nat (b : List UInt8) : parseG natR b = parseF b := by
  unfold parseF parseG
  cases getW b with
  | none => rfl
  | some x =>
    obtain ⟨n, k⟩ := x
    simp only
    split
    · cases rowsV (b.drop k) n with
      | none => rfl
      | some y =>
        obtain ⟨vs, t⟩ := y
        simp only
        by_cases h1 : chk (vs.map (ofG natR)) = 0
        · have hm := (chk_may h1).2.2
          have he : vs.map (ofG natR) = vs.map (ofG numV) := List.map_congr_left fun v hv => of_may1 (hm _ (List.mem_map.2 ⟨v, hv, rfl⟩))
          rw [he]
        · by_cases h2 : chk (vs.map (ofG numV)) = 0
          · have hm := (chk_may h2).2.2
            have he : vs.map (ofG natR) = vs.map (ofG numV) := List.map_congr_left fun v hv => of_may2 (hm _ (List.mem_map.2 ⟨v, hv, rfl⟩))
            rw [he]
          · rw [if_neg (fun h => h1 h.2), if_neg (fun h => h2 h.2)]
    · rfl

theorem rowB_eq (f : Fr) : rowB f = putW f.node.toNat ++ (putW f.part.toNat ++ (putW f.depth.toNat ++ (putW (foldZ f.x) ++ (putW (foldZ f.y) ++ (putW (foldZ f.w) ++ (putW (foldZ f.h) ++ ((putW f.text.data.toList.length ++ f.text.data.toList) ++ []))))))) := rfl
theorem rowB_len2 {f : Fr} (h : mayB f = true) : (rowB f).length ≤ 80 + f.text.size := by
  obtain ⟨h1, h2, h3, h4, h5, h6, h7, h8⟩ := may_all h
  have p1 : ∀ m, m < p64 → (putW m).length ≤ 10 := fun m hm => putW_len (p64_lt hm)
  have q1 := p1 f.node.toNat (by unfold p64; omega)
  have q2 := p1 f.part.toNat (by unfold p64; omega)
  have q3 := p1 f.depth.toNat (by unfold p64; omega)
  have q4 := p1 _ (fold_lt (i := f.x) (by omega) (by omega))
  have q5 := p1 _ (fold_lt (i := f.y) (by omega) (by omega))
  have q6 := p1 _ (fold_lt (i := f.w) (by omega) (by omega))
  have q7 := p1 _ (fold_lt (i := f.h) (by omega) (by omega))
  have e : f.text.data.toList.length = f.text.size := rfl
  have q8 := p1 f.text.data.toList.length (by rw [e]; unfold p64; omega)
  rw [rowB_eq]
  simp only [List.length_append, List.length_nil, e] at *
  omega
def tsum : List Fr → Nat
  | [] => 0
  | f :: l => 20 + f.text.size + tsum l
theorem great_sum : ∀ (l : List Fr) (n i : Nat), greatFrom n i l = false → n ≤ 9000 → n + tsum l ≤ 9000
  | [], n, i, _, h => by simp [tsum]; exact h
  | f :: l, n, i, h, hn => by
    unfold greatFrom at h
    split at h
    · cases h
    · rename_i hq
      have := great_sum l _ _ h (by omega)
      simp only [tsum]; omega
theorem rows_len : ∀ (l : List Fr), (∀ f ∈ l, mayB f = true) → (l.flatMap rowB).length ≤ 4 * tsum l
  | [], _ => by simp
  | f :: l, h => by
    have h1 := rowB_len2 (h f (by simp))
    have h2 := rows_len l (fun x hx => h x (by simp [hx]))
    rw [List.flatMap_cons, List.length_append]
    simp only [tsum]; omega
/-- a tree that is gone through has a form -/
theorem form_short {l : List Fr} (hg : greatFrom 0 0 l = false) (hc : chk l = 0) : (outF l).length ≤ 36010 := by
  have h1 := great_sum l 0 0 hg (by omega)
  have hm := chk_may hc
  have h2 := rows_len l hm.2.2
  have h3 : (putW l.length).length ≤ 10 := putW_len (p64_lt (by unfold p64; omega))
  unfold outF
  rw [List.length_append]
  omega
theorem print_tree {l : List Fr} (hg : greatFrom 0 0 l = false) (hc : chk l = 0) : printF l = (outF l, 0) := by
  unfold printF
  have := form_short hg hc
  rw [if_pos hc, if_neg (by omega)]
theorem print_none {l : List Fr} (hc : chk l ≠ 0) : printF l = ([], chk l) := by unfold printF; rw [if_neg hc]
theorem parse_err {b : List UInt8} (h : (parseF b).2 ≠ 0) : parseF b = ([], 200) := by
  unfold parseF parseG at h ⊢
  cases hg : getW b with
  | none => rfl
  | some x =>
    obtain ⟨n, k⟩ := x
    rw [hg] at h
    simp only at h ⊢
    split at h
    · rename_i hb
      rw [if_pos hb]
      cases hr : rowsV (b.drop k) n with
      | none => rfl
      | some y =>
        obtain ⟨vs, t⟩ := y
        rw [hr] at h
        simp only at h ⊢
        split at h
        · exact absurd rfl h
        · rename_i hc; rw [if_neg hc]
    · rename_i hb; rw [if_neg hb]

/-- FragMost's rows -/
def mostF (t : ByteArray) (i : Nat) : Fr := ⟨(i : Int), 0, if i = 0 then 0 else 1, 0, 0, 0, 0, t⟩
def mostL (n : Nat) (t : ByteArray) : List Fr := (List.range n).map (mostF t)
theorem mostL_len (n : Nat) (t : ByteArray) : (mostL n t).length = n := by unfold mostL; rw [List.length_map, List.length_range]
theorem mostL_at {n : Nat} {t : ByteArray} {i : Nat} (h : i < n) : (mostL n t)[i]? = some (mostF t i) := by
  unfold mostL; rw [List.getElem?_map, List.getElem?_range h]; rfl
theorem mostL_next (n : Nat) (t : ByteArray) : mostL (n + 1) t = mostL n t ++ [mostF t n] := by
  unfold mostL; rw [List.range_succ, List.map_append]; rfl
theorem most_may {n : Nat} {t : ByteArray} {i : Nat} (h : i ≤ 2050) (ht : t.size ≤ 256) : mayB (mostF t i) = true := by
  unfold mayB mostF
  simp only [Bool.and_eq_true, rng_iff, decide_eq_true_eq]
  refine ⟨⟨⟨⟨⟨⟨⟨?_, ?_⟩, ?_⟩, ?_⟩, ?_⟩, ?_⟩, ?_⟩, ht⟩ <;> (try split) <;> omega
theorem most_ok {n : Nat} {t : ByteArray} (hn : n ≤ 2050) (ht : t.size ≤ 256) {i : Nat} (h : i < n) : okAt (mostL n t) i = true := by
  have hx := mostL_at (t := t) h
  unfold okAt
  rw [hx]
  simp only [Bool.and_eq_true, Bool.not_eq_true', decide_eq_false_iff_not]
  refine ⟨⟨most_may (n := n) (by omega) ht, ?_⟩, ?_⟩
  · rw [find_ahead hx]
    intro hm
    obtain ⟨g, hg, he⟩ := List.mem_map.1 hm
    obtain ⟨j, hj⟩ := List.getElem?_of_mem hg
    have hlt : j < i := by
      have := (List.getElem?_eq_some_iff.1 hj).1
      simp at this; omega
    rw [List.getElem?_take_of_lt hlt, mostL_at (by omega)] at hj
    injection hj with hj
    subst hj
    simp only [mostF, Prod.mk.injEq] at he
    omega
  · rcases i with _ | i
    · simp [mostF]
    · rw [if_neg (Nat.succ_ne_zero i), Nat.add_sub_cancel, mostL_at (by omega)]
      simp only [mostF, rng_iff, if_neg (Nat.succ_ne_zero i)]
      split <;> omega
theorem most_chk {n : Nat} {t : ByteArray} (h0 : 0 < n) (hn : n ≤ 2050) (ht : t.size ≤ 257) : chk (mostL n t) = if 2048 < n then 4 else if 256 < t.size then 200 else 0 := by
  unfold chk
  rw [mostL_len]
  by_cases h1 : 2048 < n
  · rw [if_pos h1, if_pos h1]
  · rw [if_neg h1, if_neg h1, if_neg (by omega)]
    by_cases h2 : 256 < t.size
    · rw [if_pos h2, if_neg]
      intro ha
      have := (allOk_iff _).1 ha 0 (by rw [mostL_len]; exact h0)
      unfold okAt at this
      rw [mostL_at h0] at this
      simp only [Bool.and_eq_true] at this
      have h3 := (may_all this.1.1).2.2.2.2.2.2.2
      simp only [mostF] at h3
      omega
    · rw [if_neg h2, if_pos]
      rw [allOk_iff]
      intro k hk
      rw [mostL_len] at hk
      exact most_ok hn (by omega) hk
theorem putW_len2 {n : Nat} (h : n < 16384) : (putW n).length ≤ 2 := by
  by_cases h1 : n < 128
  · rw [putW_small h1]; simp
  · rw [putW_more h1 (Nat.lt_trans h (by decide)), putW_small (by omega)]; simp
theorem putW_len1 {n : Nat} (h : n < 128) : (putW n).length = 1 := by rw [putW_small h]; rfl
theorem most_row {t : ByteArray} {i : Nat} (h : i ≤ 2050) (ht : t.size ≤ 100) : (rowB (mostF t i)).length ≤ 109 := by
  rw [rowB_eq]
  have e : t.data.toList.length = t.size := rfl
  have q1 := putW_len2 (n := i) (by omega)
  have q0 := putW_len1 (n := 0) (by omega)
  have q2 : (putW (if i = 0 then (0 : Int) else 1).toNat).length = 1 := putW_len1 (by split <;> decide)
  have q3 := putW_len1 (n := t.size) (by omega)
  simp only [mostF, List.length_append, List.length_nil, e, Int.toNat_natCast, show (0 : Int).toNat = 0 from rfl, show foldZ 0 = 0 from rfl, q0, q2, q3] at *
  omega
theorem flat_le {α : Type} (g : α → List UInt8) (c : Nat) : ∀ l : List α, (∀ x ∈ l, (g x).length ≤ c) → (l.flatMap g).length ≤ l.length * c
  | [], _ => by simp
  | x :: l, h => by
    have h1 := h x (by simp)
    have h2 := flat_le g c l (fun y hy => h y (by simp [hy]))
    rw [List.flatMap_cons, List.length_append, List.length_cons, Nat.succ_mul]
    omega
theorem most_out {n : Nat} {t : ByteArray} (hn : n ≤ 2048) (ht : t.size ≤ 100) : (outF (mostL n t)).length ≤ 262144 := by
  have h1 : ((mostL n t).flatMap rowB).length ≤ (mostL n t).length * 109 := flat_le rowB 109 _ fun x hx => by
    unfold mostL at hx
    obtain ⟨i, hi, rfl⟩ := List.mem_map.1 hx
    exact most_row (by have := List.mem_range.1 hi; omega) ht
  have h2 := putW_len2 (n := n) (by omega)
  unfold outF
  rw [List.length_append]
  rw [mostL_len] at h1 ⊢
  omega
end Go.Proofs.Ytoneechcclndaaa.FForm
