/- message, plainly: a message that is printed is parsed as it was; bytes that are parsed are those of what they are; torn forms. -/
import Derived.Test.YtoneechcclndaaaMsg
import Derived.Test.YtoneechcclndaaaTornP
namespace Go.Proofs.Ytoneechcclndaaa.Msg
open Go.Proofs.Ytoneechcclndaaa.Word Go.Proofs.Ytoneechcclndaaa.Wire Go.Proofs.Ytoneechcclndaaa.lawTorn
set_option linter.unusedVariables false
set_option linter.unusedSimpArgs false

theorem may_kk {m : Ms} (h : mayB m = true) : ∃ k, kkOf m.kind = some k ∧ mayK k m = true := by
  unfold mayB at h
  cases hk : kkOf m.kind with
  | none => rw [hk] at h; cases h
  | some k => rw [hk] at h; exact ⟨k, rfl, h⟩
/-- what mayK says, in words of numbers -/
theorem mayK_all {k : Kk} {m : Ms} (h : mayK k m = true) : (0 ≤ m.client ∧ m.client ≤ 5) ∧ (1 ≤ m.epoch ∧ m.epoch ≤ 1099511627776) ∧ (if k.width then 0 ≤ m.width ∧ m.width ≤ 2147483648 else m.width = 0) ∧
    (if k.seq then k.least ≤ m.seq ∧ m.seq ≤ 1099511627776 else m.seq = 0) ∧ (if k.data then 1 ≤ m.bs.length ∧ m.bs.length ≤ 48 else m.bs = [] ∧ m.last = false) := by
  obtain ⟨kk, cl, ep, wd, sq, la, bs⟩ := m
  obtain ⟨a, b, c, d, e⟩ := k
  unfold mayK inB at h
  cases a <;> cases b <;> cases c <;> cases la <;> simp at h ⊢ <;> omega
theorem fits_vals {k : Kk} {n : Nat} (hk : kkOf n = some k) (m : Ms) : fitsS (ksS k) (valsK k m) = true := by
  rcases kk_cases hk with ⟨_, rfl⟩ | ⟨_, rfl⟩ | ⟨_, rfl⟩ | ⟨_, rfl⟩ | ⟨_, rfl⟩ <;> simp [ksS, valsK, vals6, schS, fitsS, fitsK, nV, wv0]
theorem wf_vals {k : Kk} {m : Ms} (hk : kkOf m.kind = some k) (hm : mayK k m = true) : (∀ v ∈ valsK k m, v.Wf) ∧ (valsK k m).any longV = false := by
  have ha := mayK_all hm
  obtain ⟨kk, cl, ep, wd, sq, la, bs⟩ := m
  simp only at ha hk
  have hkk : kk ≤ 5 := by rcases kk_cases hk with ⟨h, _⟩ | ⟨h, _⟩ | ⟨h, _⟩ | ⟨h, _⟩ | ⟨h, _⟩ <;> omega
  have hw : 0 ≤ wd + sq ∧ wd + sq ≤ 1101659111424 := by
    have h3 := ha.2.2.1
    have h4 := ha.2.2.2.1
    rcases kk_cases hk with ⟨_, rfl⟩ | ⟨_, rfl⟩ | ⟨_, rfl⟩ | ⟨_, rfl⟩ | ⟨_, rfl⟩ <;> simp at h3 h4 <;> omega
  have hb : bs.length ≤ 48 := by
    have h5 := ha.2.2.2.2
    rcases kk_cases hk with ⟨_, rfl⟩ | ⟨_, rfl⟩ | ⟨_, rfl⟩ | ⟨_, rfl⟩ | ⟨_, rfl⟩ <;> simp at h5 <;> first | omega | simp [h5.1]
  have all : ∀ v ∈ vals6 ⟨kk, cl, ep, wd, sq, la, bs⟩, v.Wf ∧ longV v = false := by
    intro v hv
    simp only [vals6, List.mem_cons, List.not_mem_nil, or_false] at hv
    rcases hv with rfl | rfl | rfl | rfl | rfl | rfl
    · exact ⟨⟨by simp only; unfold p64; omega, wv0_wf.2⟩, rfl⟩
    · exact ⟨⟨by simp only [nV]; unfold p64; omega, wv0_wf.2⟩, rfl⟩
    · exact ⟨⟨by simp only [nV]; unfold p64; omega, wv0_wf.2⟩, rfl⟩
    · exact ⟨⟨by simp only [nV]; unfold p64; omega, wv0_wf.2⟩, rfl⟩
    · exact ⟨wv0_wf, rfl⟩
    · exact ⟨⟨wv0_wf.1, wv0_wf.2.1, wv0_wf.2.2.1, wv0_wf.2.2.2.1, by simp only; omega, wv0_wf.2.2.2.2.2⟩, by simp [longV, wv0]; omega⟩
  refine ⟨fun v hv => (all v (List.mem_of_mem_take hv)).1, ?_⟩
  rw [List.any_eq_false]
  intro v hv
  rw [(all v (List.mem_of_mem_take hv)).2]
  simp
theorem print_ok {m : Ms} (h : mayB m = true) : ∃ k, kkOf m.kind = some k ∧ mayK k m = true ∧ printM m = (putS (ksS k) (valsK k m), 0) := by
  obtain ⟨k, hk, hm⟩ := may_kk h
  refine ⟨k, hk, hm, ?_⟩
  have hw := wf_vals hk hm
  unfold printM putP
  rw [hk]
  simp only
  rw [if_pos hm, sch_ks]
  simp only
  rw [if_pos (fits_vals hk m), if_neg (by rw [hw.2]; simp)]
theorem print_no {m : Ms} (h : mayB m = false) : printM m = ([], 2) := by
  unfold mayB at h
  unfold printM
  cases hk : kkOf m.kind with
  | none => rfl
  | some k => rw [hk] at h; simp only at h ⊢; rw [h]; simp
/-- bytes that begin with a kind -/
theorem take_head {n : Nat} (hn : n < 128) (r : List UInt8) : takeP [110] (UInt8.ofNat n :: r) = ([{ wv0 with n := n }], 1, 0) := by
  have h := get_put (n := n) (by unfold p64; omega) r
  rw [putW_small hn] at h
  have e : takeP [110] (UInt8.ofNat n :: r) = outT (takeS [.nat] (UInt8.ofNat n :: r)) := rfl
  rw [e]
  simp only [List.cons_append, List.nil_append] at h
  simp [takeS, takeK, h, outT]
theorem put_head (k : Kk) (m : Ms) (hn : m.kind < 128) : ∃ r, putS (ksS k) (valsK k m) = UInt8.ofNat m.kind :: r := by
  obtain ⟨a, b, c, d, e⟩ := k
  have h := putW_small hn
  cases a <;> cases b <;> cases c <;> exact ⟨_, by simp [ksS, valsK, vals6, schS, putS, putK, h]; rfl⟩
theorem parse_head {n : Nat} {k : Kk} (hk : kkOf n = some k) (r : List UInt8) :
    parseM (UInt8.ofNat n :: r) = if (wholeP (schS k) (UInt8.ofNat n :: r)).2 = 0 then (if mayK k (ofM n k (wholeP (schS k) (UInt8.ofNat n :: r)).1) then (ofM n k (wholeP (schS k) (UInt8.ofNat n :: r)).1, 0) else (ms0, 240)) else (ms0, 240) := by
  have hn : n < 128 := by rcases kk_cases hk with ⟨h, _⟩ | ⟨h, _⟩ | ⟨h, _⟩ | ⟨h, _⟩ | ⟨h, _⟩ <;> omega
  unfold parseM
  rw [take_head hn r]
  simp only [if_true]
  have h0 : nthN [({ wv0 with n := n } : WV)] 0 = n := rfl
  rw [h0, hk]
theorem whole_err {s b : List UInt8} {k : Kk} (hs : s = schS k) (h : takeS (ksS k) b = none) : (wholeP s b).2 = 40 := by
  subst hs
  unfold wholeP takeP
  rw [sch_ks]
  simp only
  rw [h]
  simp [outT]
/-- a form without its last bytes is none -/
theorem torn {m : Ms} (h : mayB m = true) (q : Nat) (hq : q < (printM m).1.length) : parseM ((printM m).1.take q) = (ms0, 240) := by
  obtain ⟨k, hk, hm, hp⟩ := print_ok h
  have hn : m.kind < 128 := by rcases kk_cases hk with ⟨h, _⟩ | ⟨h, _⟩ | ⟨h, _⟩ | ⟨h, _⟩ | ⟨h, _⟩ <;> omega
  rw [hp] at hq ⊢
  simp only at hq ⊢
  have hw := wf_vals hk hm
  have ht := take_torn (ksS k) (valsK k m) q (fits_vals hk m) hw.1 hw.2 hq
  obtain ⟨r, hr⟩ := put_head k m hn
  rw [hr] at ht ⊢
  cases q with
  | zero => rfl
  | succ q =>
    rw [List.take_succ_cons] at ht ⊢
    rw [parse_head hk, if_neg (by rw [whole_err rfl ht]; decide)]
/-- nor is it with one more -/
theorem one_more {m : Ms} (h : mayB m = true) (x : UInt8) : parseM ((printM m).1 ++ [x]) = (ms0, 240) := by
  obtain ⟨k, hk, hm, hp⟩ := print_ok h
  have hn : m.kind < 128 := by rcases kk_cases hk with ⟨h, _⟩ | ⟨h, _⟩ | ⟨h, _⟩ | ⟨h, _⟩ | ⟨h, _⟩ <;> omega
  rw [hp]
  simp only
  have hw := wf_vals hk hm
  have hm2 := whole_more x (sch_ks k) (fits_vals hk m) hw.1 hw.2
  obtain ⟨r, hr⟩ := put_head k m hn
  rw [hr] at hm2 ⊢
  rw [List.cons_append] at hm2 ⊢
  rw [parse_head hk, if_neg (by rw [hm2]; decide)]
theorem print_len3 {m : Ms} (h : mayB m = true) : 3 ≤ (printM m).1.length := by
  obtain ⟨k, hk, hm, hp⟩ := print_ok h
  rw [hp]
  have hw := wf_vals hk hm
  have hp1 : ∀ v : WV, v.Wf → 1 ≤ (putW v.n).length := fun v hv => putW_pos (p64_lt hv.1)
  have h1 : ∀ v ∈ valsK k m, 1 ≤ (putW v.n).length := fun v hv => hp1 v (hw.1 v hv)
  rcases kk_cases hk with ⟨_, rfl⟩ | ⟨_, rfl⟩ | ⟨_, rfl⟩ | ⟨_, rfl⟩ | ⟨_, rfl⟩ <;> (
    simp [ksS, valsK, vals6, schS, putS, putK] at h1 ⊢
    omega)
end Go.Proofs.Ytoneechcclndaaa.Msg
