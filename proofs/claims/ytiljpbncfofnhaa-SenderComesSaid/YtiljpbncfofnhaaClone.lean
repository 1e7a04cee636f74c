/- bytes.Clone, slices.Clone: a slice of the call's own that reads as what came. -/
import Derived.Test.YtiljpbncfofnhaaRows
import Derived.Test.YtiljpbncfofnhaaFoot
import Derived.Lib.SliceRun
import Derived.WalkSpells
import Derived.Outline
import Derived.BigQuiet
import Derived.Deep.QuietTactic
import Derived.Deep.RegionWith
import Derived.Deep.RegionHeld3
import Derived.Deep.DrawnRows
import Derived.Deep.LoopGhost
import Derived.Deep.DeepCutAuto
import Derived.Laws.EntriesVeiled
namespace Go.Proofs.Ytiljpbncfofnhaa
open Go.RowKit Go.ChangeShapes Go.WideShapes Go.ChangeAt
set_option linter.unusedVariables false
set_option linter.unusedSimpArgs false
attribute [local go_sem ↓] Go.wp_at_zero Go.wp_at_succ

/-- The call hands back a slice in blocks that it made, which reads as l; what was there is as it was. -/
def RetA {α : Type} (w : World) (e : TypeId) (c : Nat) (enc : α → List Value) (l : List α) (r : Ending) (w' : World) : Prop :=
  ∃ v, r = .returned v ∧ OwnA w' e c enc v l ∧ (∀ k, v.ownBlock = some k → w.heap.size ≤ k) ∧ Below w.heap.size w w'

theorem OwnA.fresh0 {α : Type} (w : World) (e : TypeId) (c : Nat) (enc : α → List Value) : OwnA (w.alloc (.cells #[] e)) e c enc (.slice (some ⟨w.heap.size, 0, none⟩) 0 0) ([] : List α) :=
  .inr ⟨w.heap.size, 0, 0, #[], rfl, heap_alloc_new w _, by simp, by simp [maxLen], by simp, by simp⟩

/-- an append onto a slice of no element, made just now -/
theorem RetA.made {α : Type} {w w1 w' : World} {e : TypeId} {c : Nat} {enc : α → List Value} {l : List α} {v v' : Value} (h1 : Below w.heap.size w w1) (hv : ∀ k, v.ownBlock = some k → w.heap.size ≤ k) (h : OwnA w' e c enc v' l)
    (hc : Chg (fun k => v.ownBlock = some k) w1 w') (hat : v'.ownBlock = v.ownBlock ∨ v'.ownBlock = some w1.heap.size) : RetA w e c enc l (.returned v') w' := by
  refine ⟨v', rfl, h, fun k hk => ?_, h1.trans (hc.below h1.size fun i hi hs => by have := hv i hs; omega)⟩
  rcases hat with hat | hat
  · exact hv k (hat ▸ hk)
  · have := h1.size
    rw [hat] at hk; injection hk with hk; omega

theorem OwnA.cast_len {α : Type} {w : World} {e : TypeId} {c : Nat} {enc : α → List Value} {v : Value} {l m : List α} (h : OwnA w e c enc v l) (hm : l = m) : OwnA w e c enc v m := hm ▸ h

theorem bytesCloneInfo : (Try.prog.info? 5).map (fun i => (i.zero, i.size, i.bytes)) = some (some (.int .u8 0), 1, 1) := by kernel_rfl
set_option maxRecDepth 100000 in
theorem bytesClone_any (l : List UInt8) (A : Option Addr) (n cap : Nat) (w : World) (hl : Sl w w.heap.size 1 encB A l) (hm : l.length * 1 ≤ 140737488355328) (hn : Hid (n = l.length)) (hA : A = none → cap = 0) (hnc : n ≤ cap) :
    Calls Try.prog 63 #[.slice A n cap] w (RetA w 5 1 encB l) := by
  obtain ⟨i0, hi, hz, hz1, hz2⟩ := info_parts bytesCloneInfo
  have q := fun w a n c n' c' => Lib.run_eql_slice_nil (P := Try.prog) w 36 5 a n c n' c' Try.underlying36
  rcases A with _ | ad
  · have h0 : cap = 0 := hA rfl
    subst h0
    have hn0 : n = 0 := by omega
    subst hn0
    have hl0 : l = [] := List.eq_nil_of_length_eq_zero hn.out.symm
    subst hl0
    go_enter Try.func63, Try.ntmps63
    go_wp2
    go_ret
    exact ⟨_, rfl, OwnA.nil_ _ _ _ _, (fun k hk => by cases hk), Below.refl _ _⟩
  · have hb0 : Below w.heap.size w (w.alloc (.cells #[] 5)) := (Below.refl _ _).alloc (Nat.le_refl _) _
    have H0 := Lib.hid (OwnA.fresh0 w 5 1 encB)
    have Hl := Lib.hid (Sl.ext hl hb0)
    have a1 : Hid (([] : List UInt8).length + l.length ≤ maxLen) := by rw [Hid]; simp [maxLen]; omega
    have a2 : Hid ((([] : List UInt8).length + l.length) * 1 ≤ 140737488355328) := by rw [Hid]; simp; omega
    clear hl hm
    go_enter Try.func63, Try.ntmps63
    go_wp2_with (at_builtin; refine wpList_append_a _ rfl _ _ _ rfl 5 i0 _ 1 1 Try.underlying36 hi hz hz1 hz2 rfl (by decide) encB_len encB_one _ [] (by rfl) H0.out _ (some ad) l n cap (by rfl) hn.out Hl.out a1.out a2.out ?_; intro v' w' hown' hchg hat)
    go_ret
    exact RetA.made hb0 (fun k hk => by simp [Value.ownBlock] at hk; omega) (hown'.cast_len (by simp)) hchg hat
theorem byteCloneInfo : (Try.prog.info? 5).map (fun i => (i.zero, i.size, i.bytes)) = some (some (.int .u8 0), 1, 1) := by kernel_rfl
set_option maxRecDepth 100000 in
theorem byteClone_any (l : List UInt8) (A : Option Addr) (n cap : Nat) (w : World) (hl : Sl w w.heap.size 1 encB A l) (hm : l.length * 1 ≤ 140737488355328) (hn : Hid (n = l.length)) (hA : A = none → cap = 0) (hnc : n ≤ cap) :
    Calls Try.prog 71 #[.slice A n cap] w (RetA w 5 1 encB l) := by
  obtain ⟨i0, hi, hz, hz1, hz2⟩ := info_parts byteCloneInfo
  have q := fun w a n c n' c' => Lib.run_eql_slice_nil (P := Try.prog) w 36 5 a n c n' c' Try.underlying36
  rcases A with _ | ad
  · have h0 : cap = 0 := hA rfl
    subst h0
    have hn0 : n = 0 := by omega
    subst hn0
    have hl0 : l = [] := List.eq_nil_of_length_eq_zero hn.out.symm
    subst hl0
    go_enter Try.func71, Try.ntmps71
    go_wp2
    go_ret
    exact ⟨_, rfl, OwnA.nil_ _ _ _ _, (fun k hk => by cases hk), Below.refl _ _⟩
  · have hb0 : Below w.heap.size w (w.alloc (.cells #[] 5)) := (Below.refl _ _).alloc (Nat.le_refl _) _
    have H0 := Lib.hid (OwnA.fresh0 w 5 1 encB)
    have Hl := Lib.hid (Sl.ext hl hb0)
    have a1 : Hid (([] : List UInt8).length + l.length ≤ maxLen) := by rw [Hid]; simp [maxLen]; omega
    have a2 : Hid ((([] : List UInt8).length + l.length) * 1 ≤ 140737488355328) := by rw [Hid]; simp; omega
    clear hl hm
    go_enter Try.func71, Try.ntmps71
    go_wp2_with (at_builtin; refine wpList_append_a _ rfl _ _ _ rfl 5 i0 _ 1 1 Try.underlying36 hi hz hz1 hz2 rfl (by decide) encB_len encB_one _ [] (by rfl) H0.out _ (some ad) l n cap (by rfl) hn.out Hl.out a1.out a2.out ?_; intro v' w' hown' hchg hat)
    go_ret
    exact RetA.made hb0 (fun k hk => by simp [Value.ownBlock] at hk; omega) (hown'.cast_len (by simp)) hchg hat
end Go.Proofs.Ytiljpbncfofnhaa
