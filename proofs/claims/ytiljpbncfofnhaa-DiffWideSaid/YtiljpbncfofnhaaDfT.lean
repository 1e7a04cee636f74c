/- diff: the difference, applied to the old tree, makes the new one; that of a tree and itself; no edits put fewer anew; plainly. -/
import Derived.Test.YtiljpbncfofnhaaDfQ
namespace Go.Proofs.Ytiljpbncfofnhaa.Dif
open Go.RowKit FragA FragB MayA Tree EdC EdB EdF
set_option linter.unusedVariables false
set_option linter.unusedSimpArgs false

theorem run_snoc {l : List Fr} {e : Ed} {s' : Nat × List Fr} : ∀ {es : List Ed} {s0 : Nat × List Fr} {k : Nat} {out : List Fr}, runE l es s0 = some (k, out) → mayE e = true → stepE l e k out = some s' → runE l (es ++ [e]) s0 = some s'
  | [], s0, k, out, h, hm, hs => by
    cases h
    simp only [List.nil_append, runE, hm, if_true, hs]
  | x :: es, s0, k, out, h, hm, hs => by
    rw [List.cons_append]
    unfold runE at h ⊢
    split at h
    · rename_i hx
      rw [if_pos hx]
      cases hst : stepE l x s0.1 s0.2 with
      | none => rw [hst] at h; cases h
      | some s1 =>
        rw [hst] at h
        exact run_snoc h hm hs
    · cases h
theorem run_unsnoc {l : List Fr} {e : Ed} {s' : Nat × List Fr} : ∀ {es : List Ed} {s0 : Nat × List Fr}, runE l (es ++ [e]) s0 = some s' → ∃ k out, runE l es s0 = some (k, out) ∧ mayE e = true ∧ stepE l e k out = some s'
  | [], s0, h => by
    simp only [List.nil_append, runE] at h
    split at h
    · rename_i hm
      cases hst : stepE l e s0.1 s0.2 with
      | none => rw [hst] at h; cases h
      | some s1 => rw [hst] at h; exact ⟨s0.1, s0.2, rfl, hm, by rw [hst]; exact h⟩
    · cases h
  | x :: es, s0, h => by
    rw [List.cons_append] at h
    unfold runE at h
    split at h
    · rename_i hx
      cases hst : stepE l x s0.1 s0.2 with
      | none => rw [hst] at h; cases h
      | some s1 =>
        rw [hst] at h
        obtain ⟨k, out, h1, h2, h3⟩ := run_unsnoc h
        exact ⟨k, out, by unfold runE; rw [if_pos hx, hst]; exact h1, h2, h3⟩
    · cases h
/-! ### each edit of the difference may be -/
theorem mayZ : mayB Fr.z = true := by decide +kernel
theorem may_count (k : Int) (hk : k = 0 ∨ k = 1) {n : Int} (h1 : 1 ≤ n) (h2 : n ≤ 2048) : mayE ⟨k, n, 0, 0, Fr.z⟩ = true := by
  have hb : bareE ⟨k, n, 0, 0, Fr.z⟩ = ⟨k, n, 0, 0, Fr.z⟩ := by rw [bareE, if_pos hk]
  have hkf : mayB (keyF ⟨k, n, 0, 0, Fr.z⟩) = true := mayZ
  rw [mayE, hb, Ed.beq_self, hkf]
  simp only [mayZ, Bool.and_true, Bool.true_and, Bool.and_eq_true, decide_eq_true_eq, Bool.or_eq_true]
  exact ⟨by omega, .inr ⟨h1, h2⟩⟩
theorem may_put {q : Fr} (h : mayB q = true) : mayE ⟨2, 0, 0, 0, q⟩ = true := by
  have hb : bareE ⟨2, 0, 0, 0, q⟩ = ⟨2, 0, 0, 0, q⟩ := by rw [bareE, if_neg (by simp), if_pos rfl]
  have hkf : mayB (keyF ⟨2, 0, 0, 0, q⟩) = true := mayZ
  rw [mayE, hb, Ed.beq_self, hkf]
  simp [h, countsE]
theorem may_parts {q : Fr} (h : mayB q = true) : rng 0 1099511627776 q.node = true ∧ rng 0 1099511627776 q.part = true ∧ rng 0 2048 q.depth = true ∧ rng (-1099511627776) 1099511627776 q.x = true ∧ rng (-1099511627776) 1099511627776 q.y = true ∧ rng (-1099511627776) 1099511627776 q.w = true ∧ rng (-1099511627776) 1099511627776 q.h = true ∧ q.text.size ≤ 256 := by
  simp only [mayB, Bool.and_eq_true, decide_eq_true_eq] at h
  obtain ⟨⟨⟨⟨⟨⟨⟨h1, h2⟩, h3⟩, h4⟩, h5⟩, h6⟩, h7⟩, h8⟩ := h
  exact ⟨h1, h2, h3, h4, h5, h6, h7, h8⟩
theorem may_move {q : Fr} (h : mayB q = true) : mayE ⟨3, 0, q.node, q.part, Fr.z⟩ = true := by
  have hb : bareE ⟨3, 0, q.node, q.part, Fr.z⟩ = ⟨3, 0, q.node, q.part, Fr.z⟩ := by rw [bareE, if_neg (by simp), if_neg (by simp), if_pos rfl]
  obtain ⟨h1, h2, _⟩ := may_parts h
  rw [mayE, hb, Ed.beq_self, key_may]
  simp [h1, h2, mayZ, countsE]
theorem may_geo {q : Fr} (h : mayB q = true) : mayE ⟨4, 0, 0, 0, ⟨0, 0, q.depth, q.x, q.y, q.w, q.h, ByteArray.empty⟩⟩ = true := by
  have hb : bareE ⟨4, 0, 0, 0, ⟨0, 0, q.depth, q.x, q.y, q.w, q.h, ByteArray.empty⟩⟩ = ⟨4, 0, 0, 0, ⟨0, 0, q.depth, q.x, q.y, q.w, q.h, ByteArray.empty⟩⟩ := by rw [bareE, if_neg (by simp), if_neg (by simp), if_neg (by simp), if_pos rfl]
  obtain ⟨_, _, h3, h4, h5, h6, h7, _⟩ := may_parts h
  have hkf : mayB (keyF ⟨4, 0, 0, 0, ⟨0, 0, q.depth, q.x, q.y, q.w, q.h, ByteArray.empty⟩⟩) = true := mayZ
  have hm : mayB ⟨0, 0, q.depth, q.x, q.y, q.w, q.h, ByteArray.empty⟩ = true := by
    have hz : rng 0 1099511627776 0 = true := by decide
    simp only [mayB, hz, h3, h4, h5, h6, h7, Bool.true_and]
    rfl
  rw [mayE, hb, Ed.beq_self, hkf]
  simp [hm, countsE]
theorem may_txt {q : Fr} (h : mayB q = true) : mayE ⟨5, 0, 0, 0, ⟨0, 0, 0, 0, 0, 0, 0, q.text⟩⟩ = true := by
  have hb : bareE ⟨5, 0, 0, 0, ⟨0, 0, 0, 0, 0, 0, 0, q.text⟩⟩ = ⟨5, 0, 0, 0, ⟨0, 0, 0, 0, 0, 0, 0, q.text⟩⟩ := by rw [bareE, if_neg (by simp), if_neg (by simp), if_neg (by simp), if_neg (by simp)]
  obtain ⟨_, _, _, _, _, _, _, h8⟩ := may_parts h
  have hkf : mayB (keyF ⟨5, 0, 0, 0, ⟨0, 0, 0, 0, 0, 0, 0, q.text⟩⟩) = true := mayZ
  have hm : mayB ⟨0, 0, 0, 0, 0, 0, 0, q.text⟩ = true := by
    have hz : rng 0 1099511627776 0 = true := by decide
    have hz2 : rng 0 2048 0 = true := by decide
    have hz3 : rng (-1099511627776) 1099511627776 0 = true := by decide
    simp only [mayB, hz, hz2, hz3, Bool.true_and, decide_eq_true_eq]
    exact h8
  rw [mayE, hb, Ed.beq_self, hkf]
  simp [hm, countsE]
/-! ### what each part makes -/
section
variable {a : List Fr} {s : List Ed} {k : Nat} {out : List Fr}
theorem take_one {f : Fr} (hf : a[k]? = some f) : (a.drop k).take 1 = [f] := by
  rw [drop_at hf]; rfl
theorem run_keep {f : Fr} (h : runE a s (0, []) = some (k, out)) (hf : a[k]? = some f) (ha : a.length ≤ 2048) : runE a (keepD s) (0, []) = some (k + 1, out ++ [f]) := by
  have hk := (List.getElem?_eq_some_iff.1 hf).1
  have hone : runE a (s ++ [⟨0, 1, 0, 0, Fr.z⟩]) (0, []) = some (k + 1, out ++ [f]) := by
    refine run_snoc h (may_count 0 (.inl rfl) (by omega) (by omega)) ?_
    rw [stepE, if_pos rfl]
    simp only [Int.toNat_one]
    rw [if_pos (by omega), take_one hf]
  unfold keepD
  cases hl : s.getLast? with
  | none => exact hone
  | some e =>
    simp only
    split
    · rename_i hk0
      have hs := last_split hl
      rw [hs] at h
      obtain ⟨k0, out0, h1, h2, h3⟩ := run_unsnoc h
      obtain ⟨n1, n2⟩ := may_n h2 (.inl hk0)
      rw [stepE, if_pos hk0] at h3
      split at h3
      · rename_i hle
        injection h3 with h3
        injection h3 with h4 h5
        subst h4
        subst h5
        have hN : ∃ N : Nat, e.n = (N : Int) := ⟨e.n.toNat, by omega⟩
        obtain ⟨N, hN⟩ := hN
        rw [hN, Int.toNat_natCast] at hle hk hf ⊢
        obtain ⟨kind, n, node, part, g⟩ := e
        simp only at hk0 hN n1 n2
        subst hk0
        subst hN
        have hbz : (⟨0, (N : Int), node, part, g⟩ : Ed) = ⟨0, (N : Int), 0, 0, Fr.z⟩ := by
          have h6 : Ed.beq ⟨0, (N : Int), node, part, g⟩ (bareE ⟨0, (N : Int), node, part, g⟩) = true := by
            simp only [mayE, Bool.and_eq_true] at h2
            exact h2.2.1
          rw [Ed.beq_iff, bareE, if_pos (.inl rfl)] at h6
          exact h6
        injection hbz with _ _ e1 e2 e3
        subst e1
        subst e2
        subst e3
        refine run_snoc h1 (may_count 0 (.inl rfl) (by omega) (by omega)) ?_
        rw [stepE, if_pos rfl]
        have e4 : ((N : Int) + 1).toNat = N + 1 := by omega
        simp only [e4]
        rw [if_pos (by omega), List.take_add_one, List.getElem?_drop, hf]
        simp [Nat.add_assoc]
      · cases h3
    · exact hone
theorem run_skip {i : Nat} (h : runE a s (0, []) = some (k, out)) (hi : i ≤ a.length) (hk : k ≤ i) (ha : a.length ≤ 2048) : runE a (skipD s ((i : Int) - k)) (0, []) = some (i, out) := by
  unfold skipD
  split
  · refine run_snoc h (may_count 1 (.inr rfl) (by omega) (by omega)) ?_
    rw [stepE, if_neg (by simp), if_pos rfl]
    have e : ((i : Int) - k).toNat = i - k := by omega
    simp only [e]
    rw [if_pos (by omega)]
    congr 2
    omega
  · have : k = i := by omega
    subst this
    exact h
theorem text_eq {s t : ByteArray} (h : (s.toList == t.toList) = true) : s = t := by
  have h1 := eq_of_beq h
  rw [ByteArray.toList_eq, ByteArray.toList_eq] at h1
  obtain ⟨⟨x⟩⟩ := s
  obtain ⟨⟨y⟩⟩ := t
  simp at h1
  rw [h1]
theorem run_become {f q : Fr} (h : runE a s (0, []) = some (k, out)) (hf : a[k]? = some f) (ha : a.length ≤ 2048) (hq : mayB q = true) (hc : canB f q = true) : runE a (becomeD s f q) (0, []) = some (k + 1, out ++ [q]) := by
  obtain ⟨e1, e2⟩ := canB_key hc
  unfold becomeD
  split
  · rename_i hb
    rw [Fr.beq_iff] at hb
    subst hb
    exact run_keep h hf ha
  · split
    · rename_i ht
      refine run_snoc h (may_geo hq) ?_
      rw [stepE, if_neg (by simp), if_neg (by simp), if_neg (by simp), if_neg (by simp), hf]
      simp only [if_true, geoF, Option.some.injEq, Prod.mk.injEq, true_and, List.append_cancel_left_eq, List.cons.injEq, and_true]
      rw [e1, e2, text_eq ht]
    · rename_i ht
      refine run_snoc h (may_txt hq) ?_
      rw [stepE, if_neg (by simp), if_neg (by simp), if_neg (by simp), if_neg (by simp), hf]
      have hp : samePlace f q = true := by
        rw [canB_eq] at hc
        simp only [Bool.and_eq_true, Bool.or_eq_true] at hc
        exact hc.2.resolve_left ht
      simp only [samePlace, Bool.and_eq_true, beq_iff_eq] at hp
      obtain ⟨p1, p2, p3, p4, p5⟩ := hp
      have hn : ¬ ((5 : Int) = 4) := by decide
      simp only [if_neg hn, txtF, Option.some.injEq, Prod.mk.injEq, true_and, List.append_cancel_left_eq, List.cons.injEq, and_true]
      rw [e1, e2, p1, p2, p3, p4, p5]
theorem run_new {q : Fr} (h : runE a s (0, []) = some (k, out)) (hq : mayB q = true) : runE a (newD a s q) (0, []) = some (k, out ++ [q]) := by
  unfold newD
  split
  · rename_i hx
    refine run_snoc h (may_move hq) ?_
    rw [stepE, if_neg (by simp), if_neg (by simp), if_neg (by simp), if_pos rfl]
    unfold exactD keyAt at hx
    by_cases hn : findFrom q.node q.part a 0 < 0
    · rw [if_pos hn] at hx; cases hx
    · rw [if_neg hn] at hx
      simp only at hx
      rw [if_neg hn]
      cases hf : a[(findFrom q.node q.part a 0).toNat]? with
      | none => rw [hf] at hx; cases hx
      | some f =>
        rw [hf] at hx
        simp only at hx ⊢
        rw [Fr.beq_iff] at hx
        rw [hx]
  · refine run_snoc h (may_put hq) ?_
    rw [stepE, if_neg (by simp), if_neg (by simp), if_pos rfl]
end
theorem run_go {a : List Fr} (ha : a.length ≤ 2048) (b : List Fr) (hb : ∀ q ∈ b, mayB q = true) : ∀ (r : List Fr) (j at_ : Nat) (st : List (Nat × Nat)) (s : List Ed) (out : List Fr), b.drop j = r → (st.Pairwise fun x y => x.1 < y.1 ∧ x.2 < y.2) → (∀ x ∈ st, at_ ≤ x.1 ∧ j ≤ x.2 ∧ x.2 < j + r.length ∧ ∃ f g, a[x.1]? = some f ∧ b[x.2]? = some g ∧ canB f g = true) → at_ ≤ a.length → runE a s (0, []) = some (at_, out) →
    runE a (diffGo a r j at_ st s) (0, []) = some (a.length, out ++ r)
  | [], j, at_, st, s, out, hr, _, _, hat, h => by
    rw [diffGo, List.append_nil]
    exact run_skip h (Nat.le_refl _) hat ha
  | g :: r, j, at_, [], s, out, hr, _, _, hat, h => by
    have hg : mayB g = true := hb g (List.mem_of_mem_drop (by rw [hr]; exact List.mem_cons_self))
    have hr' : b.drop (j + 1) = r := by rw [← List.drop_drop, hr]; rfl
    rw [diffGo]
    have := run_go ha b hb r (j + 1) at_ [] (newD a s g) (out ++ [g]) hr' (by simp) (by simp) hat (run_new h hg)
    rw [this]; simp
  | g :: r, j, at_, (i, j') :: st, s, out, hr, hp, hv, hat, h => by
    have hg : mayB g = true := hb g (List.mem_of_mem_drop (by rw [hr]; exact List.mem_cons_self))
    have hr' : b.drop (j + 1) = r := by rw [← List.drop_drop, hr]; rfl
    obtain ⟨v1, v2, v3, f, g', hf, hg', hc⟩ := hv (i, j') List.mem_cons_self
    simp only [List.length_cons] at v1 v2 v3 hf hg'
    by_cases hj : j' = j
    · subst hj
      have hgg : g' = g := by
        have h1 : (b.drop j')[0]? = some g := by rw [hr]; rfl
        rw [List.getElem?_drop, Nat.add_zero, hg'] at h1
        injection h1
      subst hgg
      have hi := (List.getElem?_eq_some_iff.1 hf).1
      rw [diffGo_take hf]
      have := run_go ha b hb r (j' + 1) (i + 1) st (becomeD (skipD s ((i : Int) - at_)) f g') (out ++ [g']) hr' (List.Pairwise.of_cons hp) (fun x hx => by
        obtain ⟨u1, u2, u3, u4⟩ := hv x (List.mem_cons_of_mem _ hx)
        have h2 := List.rel_of_pairwise_cons hp hx
        simp only [List.length_cons] at u3 h2
        exact ⟨by omega, by omega, by omega, u4⟩) (by omega) (run_become (run_skip h (by omega) v1 ha) hf ha hg hc)
      rw [this]; simp
    · rw [diffGo_new (by simpa [takesD] using hj)]
      have := run_go ha b hb r (j + 1) at_ ((i, j') :: st) (newD a s g) (out ++ [g]) hr' hp (fun x hx => by
        obtain ⟨u1, u2, u3, u4⟩ := hv x hx
        simp only [List.length_cons] at u3
        refine ⟨u1, ?_, by omega, u4⟩
        rcases List.mem_cons.1 hx with rfl | hx
        · simp only; omega
        · have h2 := List.rel_of_pairwise_cons hp hx
          simp only at h2
          omega) hat (run_new h hg)
      rw [this]; simp
theorem may_of_chk {b : List Fr} (h : chk b = 0) : ∀ q ∈ b, mayB q = true := by
  intro q hq
  obtain ⟨i, hi⟩ := List.getElem?_of_mem hq
  have hok := (allOk_iff b).1 (FCheck.chk_zero h).1 i (List.getElem?_eq_some_iff.1 hi).1
  unfold okAt at hok
  rw [hi] at hok
  simp only [Bool.and_eq_true] at hok
  exact hok.1.1
/-- the difference, applied to the old tree, makes the new one -/
theorem apply_diff {a b : List Fr} (ha : chk a = 0) (hb : chk b = 0) (h2 : a.length + b.length ≤ 4096) : applyE a (diffL a b) = (b, 0) := by
  have hl := len_diff a b
  have hr := run_go (FCheck.chk_zero ha).2.2 b (may_of_chk hb) b 0 0 (stayL a b) [] [] rfl (stayL_rise a b) (fun x hx => by
    obtain ⟨f, g, hf, hg, hc, _⟩ := stayL_mem hx
    have := stayL_at x hx
    exact ⟨Nat.zero_le _, Nat.zero_le _, by omega, f, g, hf, hg, hc⟩) (Nat.zero_le _) rfl
  rw [applyE, if_neg (by omega), if_neg (by simp [ha])]
  rw [show diffGo a b 0 0 (stayL a b) [] = diffL a b from rfl, List.nil_append] at hr
  rw [hr]
  simp only
  rw [if_neg (by simp [hb])]
end Go.Proofs.Ytiljpbncfofnhaa.Dif
