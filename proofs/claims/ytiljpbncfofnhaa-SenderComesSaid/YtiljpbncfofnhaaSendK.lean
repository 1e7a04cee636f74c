/- sender: what the states come to, plainly; the acts that are gone through. -/
import Derived.Test.YtiljpbncfofnhaaSendJ
import Derived.Outline
import Derived.BigQuiet
import Derived.Deep.QuietTactic
import Derived.Deep.RegionWith
import Derived.Deep.RegionHeld3
import Derived.Deep.DrawnRows
import Derived.Deep.LoopGhost
import Derived.Deep.DeepCutAuto
import Derived.Laws.EntriesVeiled
namespace Go.Proofs.Ytiljpbncfofnhaa.Send
open Go.RowKit Go.ChangeShapes Go.WideShapes Go.ChangeAt
set_option linter.unusedVariables false
set_option linter.unusedSimpArgs false
attribute [local go_sem ↓] Go.wp_at_zero Go.wp_at_succ

theorem numB_numd (l : List (Bool × List UInt8)) (a : Nat) : numB ((numd a l).map (·.1)) ((a : Int) + 1) ((a : Int) + l.length) = true := by
  unfold numB
  rw [List.length_map, numd_len]
  have h1 : ((l.length : Int) == (a : Int) + l.length - ((a : Int) + 1) + 1) = true := by simp only [beq_iff_eq]; omega
  rw [h1, Bool.true_and]
  have : ∀ (l : List (Bool × List UInt8)) (a : Nat) (q : Int), q = (a : Int) + 1 → allFrom ((numd a l).map (·.1)) q = true := by
    intro l
    induction l with
    | nil => intro a q _; rfl
    | cons x l ih =>
      intro a q hq
      subst hq
      simp only [numd, List.map_cons, allFrom, Bool.and_eq_true, beq_iff_eq]
      exact ⟨by omega, ih (a + 1) _ (by omega)⟩
  exact this l a _ rfl

def St.last (s : St) : Nat := s.acked + s.fl.length
def St.tot (s : St) : Nat := s.acked + s.fl.length + s.wt.length

theorem flg_len0 (bl : List (List UInt8)) : (flg bl.length 0 bl).length = bl.length := flg_len _ _ _
theorem lS_facts (s : St) (bl : List (List UInt8)) : (lS s bl).fl = s.fl ∧ (lS s bl).acked = s.acked ∧ (lS s bl).tot ≤ s.tot + bl.length ∧ (s.Ok → s.tot + bl.length ≤ 1000000 → (lS s bl).Ok) := by
  unfold lS
  split
  · refine ⟨rfl, rfl, ?_, fun h ht => ⟨h.fl, ?_, h.w0, h.w1, h.p0, h.p1⟩⟩
    · simp only [St.tot, flg_len0]; omega
    · simp only [St.tot, flg_len0] at ht ⊢; omega
  · exact ⟨rfl, rfl, by omega, fun h _ => h⟩
theorem calm_facts (s : St) : (calmS s).fl = s.fl ∧ (calmS s).wt = s.wt ∧ (calmS s).acked = s.acked := by unfold calmS; split <;> exact ⟨rfl, rfl, rfl⟩
theorem sendK_le (s : St) : sendK s ≤ s.wt.length ∧ (s.fl.length ≤ 4 → s.fl.length + sendK s ≤ 4) := by unfold sendK; omega
theorem sendS_facts (s : St) : (sendS s).acked = s.acked ∧ (sendS s).last = s.last + (s.wt.take (sendK s)).length ∧ (sendS s).tot = s.tot ∧ (s.Ok → (sendS s).Ok) := by
  obtain ⟨c1, c2, c3⟩ := calm_facts s
  obtain ⟨k1, k2⟩ := sendK_le s
  have ha : (sendS s).acked = s.acked := c3
  have hf : (sendS s).fl = s.fl ++ s.wt.take (sendK s) := rfl
  have hw : (sendS s).wt = s.wt.drop (sendK s) := rfl
  have ht : (sendS s).tot = s.tot := by
    simp only [St.tot, ha, hf, hw, List.length_append, List.length_take, List.length_drop]; omega
  refine ⟨ha, by simp only [St.last, ha, hf, List.length_append]; omega, ht, fun h => ?_⟩
  have hwp : (sendS s).waited = (calmS s).waited ∧ (sendS s).patience = (calmS s).patience := ⟨rfl, rfl⟩
  have hq : 0 ≤ (calmS s).waited ∧ (calmS s).waited < (calmS s).patience ∧ 2 ≤ (calmS s).patience ∧ (calmS s).patience ≤ 16 := by
    unfold calmS
    split
    · simp
    · exact ⟨h.w0, h.w1, h.p0, h.p1⟩
  refine ⟨?_, ?_, by rw [hwp.1]; exact hq.1, by rw [hwp.1, hwp.2]; exact hq.2.1, by rw [hwp.2]; exact hq.2.2.1, by rw [hwp.2]; exact hq.2.2.2⟩
  · rw [hf, List.length_append, List.length_take]
    have := k2 h.fl
    omega
  · have := h.all
    simp only [St.tot] at ht
    omega
theorem tickS_facts (s : St) : (tickS s).acked = s.acked ∧ (tickS s).fl = s.fl ∧ (tickS s).wt = s.wt ∧ (s.Ok → (tickS s).Ok) := by
  unfold tickS
  split
  · exact ⟨rfl, rfl, rfl, fun h => h⟩
  · split
    · exact ⟨rfl, rfl, rfl, fun h => ⟨h.fl, h.all, by have := h.w0; simp only; omega, by simp only; omega, h.p0, h.p1⟩⟩
    · refine ⟨rfl, rfl, rfl, fun h => ⟨h.fl, h.all, by simp, ?_, ?_, ?_⟩⟩
      · have := h.p0; simp only; omega
      · have := h.p0; simp only; omega
      · simp only; omega
theorem tickO_or (s : St) : tickO s = [] ∨ tickO s = numd s.acked s.fl := by
  unfold tickO
  split
  · exact .inl rfl
  · split
    · exact .inl rfl
    · exact .inr rfl
theorem ackS_facts (s : St) (seq : Int) : s.acked ≤ (ackS s seq).acked ∧ (ackS s seq).last = s.last ∧ (ackS s seq).wt = s.wt ∧ (s.Ok → (ackS s seq).Ok) := by
  unfold ackS
  split
  · exact ⟨Nat.le_refl _, rfl, rfl, fun h => h⟩
  · rename_i hb
    split
    · rename_i hlt
      have hk : seq.toNat - s.acked ≤ s.fl.length := by
        simp [ackB] at hb
        omega
      have hl : (St.after s (seq.toNat - s.acked)).last = s.last := by
        simp only [St.last, St.after, List.length_drop]; omega
      refine ⟨by simp only [St.after]; omega, hl, rfl, fun h => ⟨?_, ?_, by simp [St.after], by simp [St.after], by simp [St.after], by simp [St.after]⟩⟩
      · simp only [St.after, List.length_drop]; have := h.fl; omega
      · have := h.all
        simp only [St.last] at hl
        simp only [St.after] at hl ⊢
        omega
    · exact ⟨Nat.le_refl _, rfl, rfl, fun h => h⟩
theorem tot_last (s : St) : s.tot = s.last + s.wt.length := rfl

/-- what is gone through -/
theorem great_no {l : List Act} (h : great l = false) : l.length ≤ 200 ∧ ∀ a ∈ l, a.n ≤ 400 ∧ -1048576 ≤ a.seq ∧ a.seq ≤ 1048576 ∧ ∀ c ∈ a.cs, c.n ≤ 100 := by
  simp only [great, Bool.or_eq_false_iff, decide_eq_false_iff_not] at h
  refine ⟨by omega, ?_⟩
  have : ∀ (l : List Act) (n : Int), 0 ≤ n → greatA l n = false → ∀ a ∈ l, a.n ≤ 400 ∧ -1048576 ≤ a.seq ∧ a.seq ≤ 1048576 ∧ ∀ c ∈ a.cs, c.n ≤ 100 := by
    intro l
    induction l with
    | nil => intro n _ _ a ha; cases ha
    | cons x l ih =>
      intro n hn hg a ha
      rw [greatA_cons] at hg
      simp only [Bool.or_eq_false_iff, decide_eq_false_iff_not] at hg
      obtain ⟨⟨⟨⟨g1, g2⟩, g3⟩, g4⟩, g5⟩ := hg
      rcases List.mem_cons.1 ha with rfl | ha
      · refine ⟨by omega, by omega, by omega, fun c hc => ?_⟩
        have := List.any_eq_false.1 g4 c hc
        simp at this; omega
      · exact ih _ (by omega) g5 a ha
  exact this l 0 (Int.le_refl _) h.2
end Go.Proofs.Ytiljpbncfofnhaa.Send
