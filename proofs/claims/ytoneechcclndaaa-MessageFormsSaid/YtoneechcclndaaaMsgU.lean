/- message, plainly: what is printed is parsed as it was; what is parsed is printed as those bytes. -/
import Derived.Test.YtoneechcclndaaaMsgT
namespace Go.Proofs.Ytoneechcclndaaa.Msg
open Go.Proofs.Ytoneechcclndaaa.Word Go.Proofs.Ytoneechcclndaaa.Wire Go.Proofs.Ytoneechcclndaaa.lawTorn
set_option linter.unusedVariables false
set_option linter.unusedSimpArgs false

theorem whole_put' {k : Kk} {vs : List WV} (hf : fitsS (ksS k) vs = true) (hw : ∀ v ∈ vs, v.Wf) (hl : vs.any longV = false) : wholeP (schS k) (putS (ksS k) vs) = (vs, 0) := by
  have h := takeS_put (ksS k) vs [] hf hw hl
  rw [List.append_nil] at h
  unfold wholeP takeP
  rw [sch_ks]
  simp only
  rw [h]
  simp [outT]
theorem of_vals {k : Kk} {m : Ms} (hk : kkOf m.kind = some k) (hm : mayK k m = true) : ofM m.kind k (valsK k m) = m := by
  have ha := mayK_all hm
  obtain ⟨kk, cl, ep, wd, sq, la, bs⟩ := m
  simp only at ha hk
  rcases kk_cases hk with ⟨rfl, rfl⟩ | ⟨rfl, rfl⟩ | ⟨rfl, rfl⟩ | ⟨rfl, rfl⟩ | ⟨rfl, rfl⟩ <;> (
    simp at ha
    simp [ofM, valsK, vals6, schS, numM, nthN, nV, wv0, ha]
    try omega)
theorem parse_print {m : Ms} (h : mayB m = true) : parseM (printM m).1 = (m, 0) := by
  obtain ⟨k, hk, hm, hp⟩ := print_ok h
  have hn : m.kind < 128 := by rcases kk_cases hk with ⟨h, _⟩ | ⟨h, _⟩ | ⟨h, _⟩ | ⟨h, _⟩ | ⟨h, _⟩ <;> omega
  rw [hp]
  simp only
  have hw := wf_vals hk hm
  have hwh := whole_put' (fits_vals hk m) hw.1 hw.2
  obtain ⟨r, hr⟩ := put_head k m hn
  rw [hr] at hwh ⊢
  rw [parse_head hk, hwh]
  simp only [if_true]
  rw [of_vals hk hm, if_pos hm]
theorem head_same {k : Kk} {b : List UInt8} {xs : List WV} {u : Nat} (h1 : takeS (ksS k) b = some (xs, u)) : ∃ v ys t, xs = v :: ys ∧ takeP [110] b = ([v], t, 0) := by
  have hks : ∃ rest, ksS k = .nat :: rest := by unfold ksS; split <;> (try split) <;> exact ⟨_, rfl⟩
  obtain ⟨rest, hr⟩ := hks
  rw [hr] at h1
  unfold takeS at h1
  have e : takeP [110] b = outT (takeS [.nat] b) := rfl
  rw [e]
  cases hk : takeK .nat b with
  | none => rw [hk] at h1; cases h1
  | some x =>
    obtain ⟨v, t⟩ := x
    rw [hk] at h1
    simp only at h1
    cases hs : takeS rest (b.drop t) with
    | none => rw [hs] at h1; cases h1
    | some y =>
      obtain ⟨ys, q⟩ := y
      rw [hs] at h1
      simp only [Option.map_some, Option.some.injEq, Prod.mk.injEq] at h1
      refine ⟨v, ys, t + 0, h1.1.symm, ?_⟩
      unfold takeS
      rw [hk]
      rfl
theorem whole_some {k : Kk} {b : List UInt8} (h : (wholeP (schS k) b).2 = 0) : ∃ xs, takeS (ksS k) b = some (xs, b.length) ∧ (wholeP (schS k) b).1 = xs := by
  unfold wholeP takeP at h ⊢
  rw [sch_ks] at h ⊢
  simp only at h ⊢
  cases ht : takeS (ksS k) b with
  | none => rw [ht] at h; simp [outT] at h
  | some x =>
    obtain ⟨xs, u⟩ := x
    rw [ht] at h
    simp only [outT] at h ⊢
    have hf := put_takeS (ksS k) b xs u ht
    by_cases hu : u < b.length
    · rw [if_pos ⟨trivial, hu⟩] at h; cases h
    · rw [if_neg (fun h => hu h.2)]
      exact ⟨xs, by rw [show u = b.length by have := hf.2.2.2.2; omega], rfl⟩
theorem nat_only {v : WV} (h : fitsK .nat v = true) : v = { wv0 with n := v.n } := by
  obtain ⟨n, i, f, b, l⟩ := v
  simp only [fitsK, Bool.and_eq_true, beq_iff_eq, Bool.not_eq_true', List.isEmpty_iff] at h
  obtain ⟨⟨⟨rfl, rfl⟩, rfl⟩, rfl⟩ := h
  rfl
theorem flag_only {v : WV} (h : fitsK .flag v = true) : v = { wv0 with f := v.f } := by
  obtain ⟨n, i, f, b, l⟩ := v
  simp only [fitsK, Bool.and_eq_true, beq_iff_eq, Bool.not_eq_true', List.isEmpty_iff] at h
  obtain ⟨⟨⟨rfl, rfl⟩, rfl⟩, rfl⟩ := h
  rfl
theorem bytes_only {v : WV} (h : fitsK .bytes v = true) : v = { wv0 with b := v.b } := by
  obtain ⟨n, i, f, b, l⟩ := v
  simp only [fitsK, Bool.and_eq_true, beq_iff_eq, Bool.not_eq_true', List.isEmpty_iff] at h
  obtain ⟨⟨⟨rfl, rfl⟩, rfl⟩, rfl⟩ := h
  rfl
theorem num_back {n : Nat} (h : ((min n 1099511627777 : Nat) : Int) ≤ 1099511627776) : (((min n 1099511627777 : Nat) : Int)).toNat = n := by omega
theorem vals_of {kn : Nat} {k : Kk} {xs : List WV} (hk : kkOf kn = some k) (hf : fitsS (ksS k) xs = true) (hn : (xs.getD 0 wv0).n = kn) (hm : mayK k (ofM kn k xs) = true) : valsK k (ofM kn k xs) = xs := by
  have ha := mayK_all hm
  have hl := fits_len _ _ hf
  rcases kk_cases hk with ⟨rfl, rfl⟩ | ⟨rfl, rfl⟩ | ⟨rfl, rfl⟩ | ⟨rfl, rfl⟩ | ⟨rfl, rfl⟩
  · match xs, hl with
    | [a, b, c, d], _ =>
      simp only [ksS, fitsS, Bool.and_eq_true] at hf
      simp [fitsS] at hf
      obtain ⟨h1, h2, h3, h4⟩ := hf
      simp [ofM, numM, nthN] at ha hn
      rw [nat_only h1, nat_only h2, nat_only h3, nat_only h4]
      simp [valsK, vals6, schS, ofM, numM, nthN, nV, wv0, hn]
      try omega
  · match xs, hl with
    | [a, b, c], _ =>
      simp only [ksS, fitsS, Bool.and_eq_true] at hf
      simp [fitsS] at hf
      obtain ⟨h1, h2, h3⟩ := hf
      simp [ofM, numM, nthN] at ha hn
      rw [nat_only h1, nat_only h2, nat_only h3]
      simp [valsK, vals6, schS, ofM, numM, nthN, nV, wv0, hn]
      try omega
  · match xs, hl with
    | [a, b, c, d], _ =>
      simp only [ksS, fitsS, Bool.and_eq_true] at hf
      simp [fitsS] at hf
      obtain ⟨h1, h2, h3, h4⟩ := hf
      simp [ofM, numM, nthN] at ha hn
      rw [nat_only h1, nat_only h2, nat_only h3, nat_only h4]
      simp [valsK, vals6, schS, ofM, numM, nthN, nV, wv0, hn]
      try omega
  · match xs, hl with
    | [a, b, c, d, e, f], _ =>
      simp only [ksS, fitsS, Bool.and_eq_true] at hf
      simp [fitsS] at hf
      obtain ⟨h1, h2, h3, h4, h5, h6⟩ := hf
      simp [ofM, numM, nthN] at ha hn
      rw [nat_only h1, nat_only h2, nat_only h3, nat_only h4, flag_only h5, bytes_only h6]
      simp [valsK, vals6, schS, ofM, numM, nthN, nV, wv0, hn]
      try omega
  · match xs, hl with
    | [a, b, c], _ =>
      simp only [ksS, fitsS, Bool.and_eq_true] at hf
      simp [fitsS] at hf
      obtain ⟨h1, h2, h3⟩ := hf
      simp [ofM, numM, nthN] at ha hn
      rw [nat_only h1, nat_only h2, nat_only h3]
      simp [valsK, vals6, schS, ofM, numM, nthN, nV, wv0, hn]
      try omega
theorem print_parse {b : List UInt8} {o : Ms} (h : parseM b = (o, 0)) : mayB o = true ∧ printM o = (b, 0) := by
  unfold parseM at h
  simp only at h
  by_cases he : (takeP [110] b).2.2 = 0
  · rw [if_pos he] at h
    cases hk : kkOf (nthN (takeP [110] b).1 0) with
    | none => rw [hk] at h; simp at h
    | some k =>
      rw [hk] at h
      simp only at h
      by_cases hw : (wholeP (schS k) b).2 = 0
      · rw [if_pos hw] at h
        obtain ⟨xs, hx, hxe⟩ := whole_some hw
        rw [hxe] at h
        obtain ⟨v, ys, t, rfl, hv⟩ := head_same hx
        have hkn : nthN (takeP [110] b).1 0 = v.n := by rw [hv]; rfl
        rw [hkn] at hk h
        by_cases hm : mayK k (ofM v.n k (v :: ys)) = true
        · rw [if_pos hm] at h
          simp only [Prod.mk.injEq, and_true] at h
          subst h
          have hf := put_takeS _ _ _ _ hx
          have hval := vals_of hk hf.2.1 rfl hm
          have hko : kkOf (ofM v.n k (v :: ys)).kind = some k := hk
          refine ⟨by unfold mayB; rw [hko]; exact hm, ?_⟩
          unfold printM putP
          rw [hko]
          simp only
          rw [if_pos hm, sch_ks]
          simp only
          rw [hval, if_pos hf.2.1, if_neg (by rw [hf.2.2.2.1]; simp), hf.1, List.take_length]
        · rw [if_neg hm] at h; simp at h
      · rw [if_neg hw] at h; simp at h
  · rw [if_neg he] at h; simp at h
end Go.Proofs.Ytoneechcclndaaa.Msg
