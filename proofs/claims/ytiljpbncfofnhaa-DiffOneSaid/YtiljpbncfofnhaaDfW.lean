/- diff: one fragment's text another one, its place another one; plainly. -/
import Derived.Test.YtiljpbncfofnhaaDfV
namespace Go.Proofs.Ytiljpbncfofnhaa.Dif
open Go.RowKit FragA FragB MayA Tree EdC EdB EdF
set_option linter.unusedVariables false
set_option linter.unusedSimpArgs false

def withText (f : Fr) (t : ByteArray) : Fr := ⟨f.node, f.part, f.depth, f.x, f.y, f.w, f.h, t⟩
def withX (f : Fr) (x : Int) : Fr := ⟨f.node, f.part, f.depth, x, f.y, f.w, f.h, f.text⟩
theorem set_self {a : List Fr} {k : Nat} {f : Fr} (hf : a[k]? = some f) : a.set k f = a := by
  obtain ⟨hk, rfl⟩ := List.getElem?_eq_some_iff.1 hf
  exact List.set_getElem_self hk
theorem self_facts {a : List Fr} (ha : chk a = 0) (k : Int) (hk : k ≠ 0) : (diffL a a).length ≤ 3 ∧ putsE (diffL a a) = 0 ∧ kindsE k (diffL a a) = 0 := by
  have h0 : ((0 : Int) == k) = false := by simp; omega
  rw [diff_self ha]
  refine ⟨by simp, by simp [putsE], by simp [kindsE, h0]⟩
theorem one_text {a : List Fr} (ha : chk a = 0) {k : Nat} {f : Fr} (hf : a[k]? = some f) {t : ByteArray} (ht : t.size ≤ 100) :
    chk (a.set k (withText f t)) = 0 ∧ (diffL a (a.set k (withText f t))).length ≤ 3 ∧ putsE (diffL a (a.set k (withText f t))) = 0 ∧ kindsE 5 (diffL a (a.set k (withText f t))) = (if f.text.toList == t.toList then 0 else 1) := by
  have hm := may_of_chk ha f (List.mem_of_getElem? hf)
  have hm' : mayB (withText f t) = true := by
    obtain ⟨p1, p2, p3, p4, p5, p6, p7, _⟩ := may_parts hm
    simp only [mayB, withText, p1, p2, p3, p4, p5, p6, p7, Bool.true_and]
    exact decide_eq_true (by omega)
  refine ⟨chk_set ha hf rfl rfl rfl hm', ?_⟩
  by_cases hq : (f.text.toList == t.toList) = true
  · have e : withText f t = f := by rw [withText, ← text_eq hq]
    rw [e, set_self hf, if_pos hq]
    exact self_facts ha 5 (by decide)
  · have hc : canB f (withText f t) = true := by simp [canB, withText]
    have he : ∀ s, becomeD s f (withText f t) = s ++ [⟨5, 0, 0, 0, ⟨0, 0, 0, 0, 0, 0, 0, t⟩⟩] := fun s => by
      rw [becomeD, if_neg, if_neg (show ¬ (f.text.toList == (withText f t).text.toList) = true from hq)]
      · rfl
      · intro h
        rw [Fr.beq_iff] at h
        apply hq
        rw [h]
        simp [withText]
    have hd := diff_set ha hf hc he (by simp)
    rw [if_neg hq]
    refine ⟨?_, puts_set ha hf hc, ?_⟩
    · rw [hd]; exact len_on
    · rw [hd]
      exact kinds_on (a := a) (k := 5) (by decide) rfl
theorem one_place {a : List Fr} (ha : chk a = 0) {k : Nat} {f : Fr} (hf : a[k]? = some f) {x : Int} (h1 : -1099511627776 ≤ x) (h2 : x ≤ 1099511627776) :
    chk (a.set k (withX f x)) = 0 ∧ (diffL a (a.set k (withX f x))).length ≤ 3 ∧ putsE (diffL a (a.set k (withX f x))) = 0 ∧ kindsE 4 (diffL a (a.set k (withX f x))) = (if f.x == x then 0 else 1) := by
  have hm := may_of_chk ha f (List.mem_of_getElem? hf)
  have hm' : mayB (withX f x) = true := by
    obtain ⟨p1, p2, p3, p4, p5, p6, p7, p8⟩ := may_parts hm
    have hx : rng (-1099511627776) 1099511627776 x = true := by rw [rng_iff]; exact ⟨h1, h2⟩
    simp only [mayB, withX, p1, p2, p3, hx, p5, p6, p7, Bool.true_and]
    exact decide_eq_true p8
  refine ⟨chk_set ha hf rfl rfl rfl hm', ?_⟩
  by_cases hq : (f.x == x) = true
  · have hq' : f.x = x := by simpa using hq
    have e : withX f x = f := by rw [withX, ← hq']
    rw [e, set_self hf, if_pos hq]
    exact self_facts ha 4 (by decide)
  · have hc : canB f (withX f x) = true := by simp [canB, withX]
    have he : ∀ s, becomeD s f (withX f x) = s ++ [⟨4, 0, 0, 0, ⟨0, 0, f.depth, x, f.y, f.w, f.h, ByteArray.empty⟩⟩] := fun s => by
      rw [becomeD, if_neg, if_pos]
      · rfl
      · simp [withX]
      · intro h
        rw [Fr.beq_iff] at h
        apply hq
        rw [h]
        simp [withX]
    have hd := diff_set ha hf hc he (by simp)
    rw [if_neg hq]
    refine ⟨?_, puts_set ha hf hc, ?_⟩
    · rw [hd]; exact len_on
    · rw [hd]
      exact kinds_on (a := a) (k := 4) (by decide) rfl
end Go.Proofs.Ytiljpbncfofnhaa.Dif
