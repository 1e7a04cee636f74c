/- wire, plainly: what putP tells; whole, torn. -/
import Derived.Test.YtoneechcclndaaaGreat04
import Derived.ChangeMaps5
import Derived.Outline
import Derived.BigQuiet
import Derived.Deep.QuietTactic
import Derived.Deep.RegionWith
import Derived.Deep.RegionHeld3
import Derived.Deep.DrawnRows
import Derived.Deep.LoopGhost
import Derived.Deep.DeepCutAuto
import Derived.Laws.EntriesVeiled
namespace Go.Proofs.Ytoneechcclndaaa.lawTorn
open Go.RowKit Go.ChangeShapes Go.WideShapes Go.ChangeAt
set_option linter.unusedVariables false
set_option linter.unusedSimpArgs false
attribute [local go_sem ↓] Go.wp_at_zero Go.wp_at_succ
open Wire Word Bytes Go.Shelf

theorem putP_ok {sl : List UInt8} {vs : List WV} (h : (putP sl vs).2 = 0) : ∃ ks, schemaP sl = some ks ∧ fitsS ks vs = true ∧ vs.any longV = false ∧ (putP sl vs).1 = putS ks vs := by
  unfold putP at h ⊢
  cases hs : schemaP sl with
  | none => rw [hs] at h; cases h
  | some ks =>
    rw [hs] at h
    simp only at h ⊢
    by_cases hf : fitsS ks vs = true
    · rw [if_pos hf] at h ⊢
      by_cases hl : vs.any longV = true
      · rw [if_pos hl] at h; cases h
      · rw [if_neg hl] at h ⊢
        exact ⟨ks, rfl, hf, by simpa using hl, rfl⟩
    · rw [if_neg hf] at h; cases h
theorem putP_err {sl : List UInt8} {vs : List WV} (h : (putP sl vs).2 ≠ 0) : (putP sl vs).1 = [] := by
  unfold putP at h ⊢
  cases hs : schemaP sl with
  | none => rfl
  | some ks =>
    rw [hs] at h
    simp only at h ⊢
    by_cases hf : fitsS ks vs = true
    · rw [if_pos hf] at h ⊢
      by_cases hl : vs.any longV = true
      · rw [if_pos hl]
      · rw [if_neg hl] at h; exact absurd rfl h
    · rw [if_neg hf]
theorem putS_len : ∀ (ks : List Kd) (vs : List WV), (∀ v ∈ vs, v.Wf) → vs.any longV = false → (putS ks vs).length ≤ 300000 * ks.length
  | [], vs, _, _ => by cases vs <;> simp [putS]
  | k :: ks, [], _, _ => by simp [putS]
  | k :: ks, v :: vs, hw, hl => by
    simp only [List.any_cons, Bool.or_eq_false_iff] at hl
    have h1 := putK_len k v (hw v (by simp)) hl.1
    have h2 := putS_len ks vs (fun x hx => hw x (by simp [hx])) hl.2
    rw [putS, List.length_append, List.length_cons]
    omega
theorem schema_len {sl : List UInt8} {ks : List Kd} (h : schemaP sl = some ks) : ks.length ≤ 64 := by
  unfold schemaP at h
  split at h
  · rw [kds_length _ _ h]; assumption
  · cases h

theorem in_ext {w w' : World} {r : Wr} (h : r.In w) (hb : Below w.heap.size w w') : r.In w' := ⟨h.b.ext hb, h.bn, h.l.ext hb, h.ln, h.n, h.i1, h.i2, h.p, h.bm, h.lm⟩
theorem all_wf {w : World} {rs : List Wr} (h : ∀ r ∈ rs, r.Rd w) : ∀ v ∈ rs.map Wr.v, v.Wf := by
  intro v hv
  obtain ⟨r, hr, rfl⟩ := List.mem_map.1 hv
  exact (h r hr).wf
theorem whole_more {sl : List UInt8} {ks : List Kd} {vs : List WV} (d : UInt8) (hs : schemaP sl = some ks) (hf : fitsS ks vs = true) (hw : ∀ v ∈ vs, v.Wf) (hl : vs.any longV = false) : wholeP sl (putS ks vs ++ [d]) = ([], 40) := by
  unfold wholeP takeP
  rw [hs]
  simp only
  rw [takeS_put ks vs [d] hf hw hl]
  simp [outT]
theorem take_less {sl : List UInt8} {ks : List Kd} {vs : List WV} (q : Nat) (hs : schemaP sl = some ks) (hf : fitsS ks vs = true) (hw : ∀ v ∈ vs, v.Wf) (hl : vs.any longV = false) (hq : q < (putS ks vs).length) : takeP sl ((putS ks vs).take q) = ([], 0, 40) := by
  unfold takeP
  rw [hs]
  simp only
  rw [take_torn ks vs q hf hw hl hq]
  rfl

end Go.Proofs.Ytoneechcclndaaa.lawTorn
