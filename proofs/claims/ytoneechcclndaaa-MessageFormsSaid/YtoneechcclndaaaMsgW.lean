/- message, plainly: the document's way to parse is the program's. -/
import Derived.Test.YtoneechcclndaaaRMsgA
import Derived.Test.YtoneechcclndaaaMsgV
namespace Go.Proofs.Ytoneechcclndaaa.Msg
open Go.Proofs.Ytoneechcclndaaa.Word Go.Proofs.Ytoneechcclndaaa.Wire
set_option linter.unusedVariables false
set_option linter.unusedSimpArgs false

def nR (l : List WV) (i : Nat) : Int := numR (l.getD i wv0)
def ofR (kn : Nat) (k : Kk) (l : List WV) : Ms :=
  ⟨kn, nR l 1, nR l 2, if k.width then nR l 3 else 0, if k.seq then nR l 3 else 0, if k.data then (l.getD 4 wv0).f else false, if k.data then (l.getD 5 wv0).b else []⟩
/-- is it a message of that kind? -/
def tryK (b : List UInt8) (kd : Nat) : Option Ms :=
  match kkOf kd with
  | none => none
  | some k => if (wholeP (schS k) b).2 = 0 ∧ nthN (wholeP (schS k) b).1 0 = kd then (if mayB (ofR kd k (wholeP (schS k) b).1) then some (ofR kd k (wholeP (schS k) b).1) else none) else none
theorem nR_numM (l : List WV) (i : Nat) : nR l i = numM l i ∧ 0 ≤ numM l i ∧ numM l i ≤ 1099511627776 ∨ nR l i = -1 ∧ numM l i = 1099511627777 := by
  unfold nR numM numR nthN
  by_cases h : 1099511627776 < (l.getD i wv0).n
  · right; rw [if_pos h]; omega
  · left; rw [if_neg h]; omega
theorem may_of {kn : Nat} {k : Kk} {l : List WV} (hk : kkOf kn = some k) : mayB (ofR kn k l) = mayB (ofM kn k l) ∧ (mayB (ofR kn k l) = true → ofR kn k l = ofM kn k l) := by
  have h1 := nR_numM l 1
  have h2 := nR_numM l 2
  have h3 := nR_numM l 3
  unfold ofR ofM
  generalize nR l 1 = a1 at *
  generalize nR l 2 = a2 at *
  generalize nR l 3 = a3 at *
  generalize numM l 1 = b1 at *
  generalize numM l 2 = b2 at *
  generalize numM l 3 = b3 at *
  by_cases e1 : a1 = b1
  · by_cases e2 : a2 = b2
    · by_cases e3 : a3 = b3
      · subst e1 e2 e3; exact ⟨rfl, fun _ => rfl⟩
      · have h3' : a3 = -1 ∧ b3 = 1099511627777 := (h3.resolve_left fun h => e3 h.1)
        obtain ⟨rfl, rfl⟩ := h3'
        subst e1 e2
        clear h1 h2 h3 e3
        rcases kk_cases hk with ⟨rfl, rfl⟩ | ⟨rfl, rfl⟩ | ⟨rfl, rfl⟩ | ⟨rfl, rfl⟩ | ⟨rfl, rfl⟩ <;> simp [mayB, kkOf, mayK, inB]
    · have h2' : a2 = -1 ∧ b2 = 1099511627777 := (h2.resolve_left fun h => e2 h.1)
      obtain ⟨rfl, rfl⟩ := h2'
      unfold mayB
      simp only [hk]
      simp [mayK, inB]
  · have h1' : a1 = -1 ∧ b1 = 1099511627777 := (h1.resolve_left fun h => e1 h.1)
    obtain ⟨rfl, rfl⟩ := h1'
    unfold mayB
    simp only [hk]
    simp [mayK, inB]
theorem mayB_k {kn : Nat} {k : Kk} {l : List WV} (hk : kkOf kn = some k) : mayB (ofM kn k l) = mayK k (ofM kn k l) := by
  unfold mayB
  simp only [ofM, hk]
/-- what is found by trying is what is parsed -/
theorem try_parse {b : List UInt8} {kd : Nat} {m : Ms} (h : tryK b kd = some m) : parseM b = (m, 0) := by
  unfold tryK at h
  cases hk : kkOf kd with
  | none => rw [hk] at h; cases h
  | some k =>
    rw [hk] at h
    simp only at h
    split at h
    · rename_i hw
      split at h
      · rename_i hm
        simp only [Option.some.injEq] at h
        obtain ⟨xs, hxs, he⟩ := whole_some hw.1
        obtain ⟨v, ys, t, rfl, ht⟩ := head_same hxs
        rw [he] at hm h hw
        have hv : v.n = kd := hw.2
        have hof := may_of (l := v :: ys) hk
        rw [hof.2 hm] at h
        rw [hof.1, mayB_k hk] at hm
        have hk' : kkOf v.n = some k := by rw [hv]; exact hk
        rw [parse_is ht hk' hw.1, he, hv, if_pos hm, h]
      · cases h
    · cases h
theorem parse_try {b : List UInt8} {m : Ms} (h : parseM b = (m, 0)) : 1 ≤ m.kind ∧ m.kind ≤ 5 ∧ tryK b m.kind = some m := by
  by_cases h1 : (takeP [110] b).2.2 = 0
  · obtain ⟨v, u, ht⟩ := take1 b h1
    cases hk : kkOf v.n with
    | none => rw [parse_no2 ht hk] at h; cases h
    | some k =>
      by_cases hw : (wholeP (schS k) b).2 = 0
      · rw [parse_is ht hk hw] at h
        split at h
        · rename_i hm
          simp only [Prod.mk.injEq, and_true] at h
          subst h
          obtain ⟨xs, hxs, he⟩ := whole_some hw
          obtain ⟨v', ys, t, rfl, ht'⟩ := head_same hxs
          rw [ht] at ht'
          simp only [Prod.mk.injEq, List.cons.injEq, and_true] at ht'
          obtain ⟨rfl, rfl⟩ := ht'
          have hb : 1 ≤ v.n ∧ v.n ≤ 5 := by rcases kk_cases hk with ⟨h, _⟩ | ⟨h, _⟩ | ⟨h, _⟩ | ⟨h, _⟩ | ⟨h, _⟩ <;> omega
          have e : (ofM v.n k (wholeP (schS k) b).1).kind = v.n := rfl
          rw [e]
          refine ⟨hb.1, hb.2, ?_⟩
          unfold tryK
          rw [hk]
          simp only
          rw [if_pos ⟨hw, by rw [he]; rfl⟩]
          have hof := may_of (l := (wholeP (schS k) b).1) hk
          have hm2 : mayB (ofR v.n k (wholeP (schS k) b).1) = true := by rw [hof.1, mayB_k hk]; exact hm
          rw [if_pos hm2, hof.2 hm2]
        · cases h
      · rw [parse_no3 ht hk hw] at h; cases h
  · rw [parse_no1 h1] at h; cases h
theorem parse_two (b : List UInt8) : parseM b = (ms0, 240) ∨ ∃ m, parseM b = (m, 0) := by
  by_cases h1 : (takeP [110] b).2.2 = 0
  · obtain ⟨v, u, ht⟩ := take1 b h1
    cases hk : kkOf v.n with
    | none => exact .inl (parse_no2 ht hk)
    | some k =>
      by_cases hw : (wholeP (schS k) b).2 = 0
      · rw [parse_is ht hk hw]
        split
        · exact .inr ⟨_, rfl⟩
        · exact .inl rfl
      · exact .inl (parse_no3 ht hk hw)
  · exact .inl (parse_no1 h1)
theorem try_none {b : List UInt8} (h : ∀ kd, 1 ≤ kd → kd ≤ 5 → tryK b kd = none) : parseM b = (ms0, 240) := by
  rcases parse_two b with h1 | ⟨m, h1⟩
  · exact h1
  · obtain ⟨a, b', c⟩ := parse_try h1
    rw [h _ a b'] at c; cases c
end Go.Proofs.Ytoneechcclndaaa.Msg
