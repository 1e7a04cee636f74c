/- frag: Check, Parent, End of the program. -/
import Derived.Test.YtiljpbncfofnhaaHang
import Derived.OwnWalkIn
import Derived.TacticsInMore
import Derived.Outline
import Derived.BigQuiet
import Derived.Deep.QuietTactic
import Derived.Deep.RegionWith
import Derived.Deep.RegionHeld3
import Derived.Deep.DrawnRows
import Derived.Deep.LoopGhost
import Derived.Deep.DeepCutAuto
import Derived.Laws.EntriesVeiled
namespace Go.Proofs.Ytiljpbncfofnhaa.FCheck
open Go.RowKit Go.ChangeShapes Go.WideShapes Go.ChangeAt
set_option linter.unusedVariables false
set_option linter.unusedSimpArgs false
attribute [local go_sem ↓] Go.wp_at_zero Go.wp_at_succ
attribute [local go_sem] Oper.semAt_some
open FragA FragB MayA Tree Hang Go.Shelf

theorem hang_any (A : Option Addr) (n cap : Nat) (w : World) : Calls Try.prog 88 #[.slice A n cap] w fun e w' => e = .returned (.func (.func 105) #[] #[.pointer (some ⟨w.heap.size, 0, none⟩)]) ∧ w.alloc (.cells #[.slice A n cap] 59) = w' := by
  go_enter Try.func88, Try.ntmps88
  go_wp2
  go_ret
  exact ⟨rfl, rfl⟩

theorem check_small (l : List Fr) (A : Option Addr) (n cap : Nat) (w : World) (hl : FrSl w w.heap.size A l) (hw : FrsWf l) (hn : Hid (n = l.length)) (h2 : n ≤ 2048) :
    Calls Try.prog 56 #[.slice A n cap] w fun e w' => e = .returned (.int .i64 (chk l)) ∧ Below w.heap.size w w' := by
  refine (callsIn_wide (n := 3)).1 ?_
  refine callsIn_of_wp_marks Try.func56 rfl trivial ?_ rfl
  simp only [Try.ntmps56, List.size_toArray, List.length_cons, List.length_nil, Nat.reduceAdd, Nat.reduceSub, Array.replicate_succ, Array.replicate_zero, List.push_toArray, List.append_toArray, List.nil_append, List.cons_append]
  gi_wp2_with fail
  refine ⟨trivial, ?_⟩
  refine (callsIn_wide.2 (hang_any _ _ _ _)).mono ?_; rintro e w' ⟨rfl, rfl⟩
  gi_wp2_with fail
  have hB0 : Below w.heap.size w ((w.alloc (.cells #[.int .i64 0] 3)).alloc (.cells #[.slice A n cap] 59)) := ((Below.refl _ _).alloc (Nat.le_refl _) _).alloc (by simp) _
  have hsz : ((w.alloc (.cells #[.int .i64 0] 3)).alloc (.cells #[.slice A n cap] 59)).heap.size = w.heap.size + 2 := by simp
  have hn0 : ((w.alloc (.cells #[.int .i64 0] 3)).alloc (.cells #[.slice A n cap] 59)).cell? ⟨w.heap.size, 0, none⟩ = some (.int .i64 0) := by go_simp
  have hf0 : ((w.alloc (.cells #[.int .i64 0] 3)).alloc (.cells #[.slice A n cap] 59)).frozen? ⟨w.heap.size, 0, none⟩ = false := by go_simp
  have hb0 : ((w.alloc (.cells #[.int .i64 0] 3)).alloc (.cells #[.slice A n cap] 59)).cell? ⟨w.heap.size + 1, 0, none⟩ = some (.slice A n cap) := by go_simp
  generalize ((w.alloc (.cells #[.int .i64 0] 3)).alloc (.cells #[.slice A n cap] 59)) = w0 at *
  have hl0 : FrSl w0 w0.heap.size A l := hl.ext hB0
  have hAb : l ≠ [] → blockOf A ≠ some w.heap.size := fun hne e => by
    obtain ⟨b, off, rfl, hb, _⟩ := hl hne
    simp [blockOf] at e; omega
  have hit := hang_iter (3 - 1) l A cap (w.heap.size + 1) w0 (fun k => k = w.heap.size) hl0 (by rw [← hn.out]; unfold maxLen; omega) hw (by rw [← hn.out]; exact hb0) (by simp) (fun hne k hk h => by
    subst h
    exact hAb hne hk) (fun k h => by omega)
  have hlen := (hangs_len l).1
  have hchk := Lib.hid (chk_eq l)
  refine wpIn_range (n := 3) (gf := 105) (lb := #[.pointer (some ⟨w.heap.size + 1, 0, none⟩)]) rfl (enters_of Try.func105 (by kernel_rfl) rfl) (encs := encs) (fun _ => rfl) (hangs l) (fun k => k = w.heap.size) (fun k h => by omega) hit
    (fun pre W => W.cell? ⟨w.heap.size, 0, none⟩ = some (.int .i64 (pre.length : Int)) ∧ W.frozen? ⟨w.heap.size, 0, none⟩ = false ∧ Below w.heap.size w W) (fun _ _ _ => False)
    (fun s X Y h hc => ⟨(hc.cell (p := ⟨w.heap.size, 0, none⟩) (World.block_lt_of_cell? X _ h.1) (by simp; omega)).trans h.1, (World.frozen?_of_block (w := X) (hc.block _ (World.block_lt_of_cell? X _ h.1) (by simp; omega))).trans h.2.1, h.2.2.trans (hc.below (by have := h.2.2.size; omega) (fun i hi h => by omega))⟩)
    (fun c s X Y h hc => h.elim) ⟨hn0, hf0, hB0⟩
    (fun x => { tmps := #[.slice A n cap, undef, .int .i64 0, .pointer (some ⟨w.heap.size, 0, none⟩), .slice A n cap, .int .i64 (n : Int), .bool (decide (2048 < (n : Int))), .slice A n cap, .func (.func 105) #[] #[.pointer (some ⟨w.heap.size + 1, 0, none⟩)], .int .i64 x.1, .int .i64 x.2, undef, undef, undef, undef, undef, undef, undef, undef, undef, undef], defers := [] }) ?assign ?body ?done ?stop
  case assign =>
    intro l x W K hK
    have e : ∀ (T : Array Value), ((#[9, 10] : Array Tmp).zip (encs x)).foldl (fun t (y : Tmp × Value) => t.setIfInBounds y.1 y.2) T = (T.setIfInBounds 9 (.int .i64 x.1)).setIfInBounds 10 (.int .i64 x.2) := fun T => by simp [encs]
    rw [e]
    gi_wp2
    exact hK
  case body =>
    rintro l' pre x W ⟨hc, hf, hB⟩ hpre hsz'
    have hpl : pre.length < l.length := by
      have := hpre.length_le
      simp at this; omega
    have hpl2 : (pre.length : Int) < 2048 := by rw [← hn.out] at hpl; omega
    gi_wp2
    exact ⟨(Chg.refl (fun k => k = w.heap.size) W).setCell (p := ⟨w.heap.size, 0, none⟩) (fun _ => rfl) _, by rw [List.length_append]; exact World.cell?_setCell_same' _ _ _ (by rw [hc]; rfl), by rw [World.frozen?_setCell]; exact hf, hB.setCell (Nat.le_refl _) _⟩
  case done =>
    rintro D W hD ⟨hc, hf, hB⟩ hK
    have hlen2 : ((hangs l).length : Int) ≤ (n : Int) := by rw [hn.out]; omega
    generalize (hangs l).length = m at *
    have hfin : ∀ o, Below w.heap.size w (W.putObj D o) := fun o => hB.trans ((Chg.refl (fun k => k = D) W).putObj (r := D) (fun _ => rfl) o |>.below hB.size (fun i hi h => by omega))
    by_cases h0 : m = 0
    · subst h0
      gi_wp2
      refine ⟨by simp, .inl ⟨_, _, rfl, run_takeDeferred hK, ?_⟩⟩
      have e : chk l = 200 := by rw [hchk.out, if_neg (by rw [← hn.out]; omega), if_pos (.inl (by simp))]
      exact ⟨_, results_tmp (t := 2) rfl _ _ _, by rw [e]; rfl, hfin _⟩
    · have h0' : ((m : Int) == 0) = false := by simp; omega
      by_cases h1 : (m : Int) < (n : Int)
      · gi_wp2
        refine ⟨by simp, .inl ⟨_, _, rfl, run_takeDeferred hK, ?_⟩⟩
        have e : chk l = 200 := by rw [hchk.out, if_neg (by rw [← hn.out]; omega), if_pos (.inr (by rw [← hn.out]; omega))]
        exact ⟨_, results_tmp (t := 2) rfl _ _ _, by rw [e]; rfl, hfin _⟩
      · gi_wp2
        refine ⟨by simp, .inl ⟨_, _, rfl, run_takeDeferred hK, ?_⟩⟩
        have e : chk l = 0 := by rw [hchk.out, if_neg (by rw [← hn.out]; omega), if_neg (by rw [← hn.out]; omega)]
        exact ⟨_, results_tmp (t := 2) rfl _ _ _, by rw [e]; rfl, hfin _⟩
  case stop =>
    rintro D c pre W hD h _
    exact h.elim

theorem check_any (l : List Fr) (A : Option Addr) (n cap : Nat) (w : World) (hl : FrSl w w.heap.size A l) (hw : FrsWf l) (hn : Hid (n = l.length)) :
    Calls Try.prog 56 #[.slice A n cap] w fun e w' => e = .returned (.int .i64 (chk l)) ∧ Below w.heap.size w w' := by
  by_cases h : n ≤ 2048
  · exact check_small l A n cap w hl hw hn h
  · have he : Hid (chk l = 4) := by rw [Hid, chk, if_pos (by rw [← hn.out]; omega)]
    go_enter Try.func56, Try.ntmps56
    go_wp2
    go_ret
    exact ⟨ret_int he.out.symm, Below.refl _ _⟩

/-! ### Parent -/
theorem okAt_depth {l : List Fr} {k : Nat} {f : Fr} (h : okAt l k = true) (hf : l[k]? = some f) : 0 ≤ f.depth := by
  unfold okAt at h
  rw [hf] at h
  simp only [Bool.and_eq_true] at h
  exact (may_depth h.1.1).1
theorem lastBefore_neg {l : List Fr} (h : allOk l = true) : ∀ i : Nat, i ≤ l.length → ∀ d : Int, d < 0 → lastBefore l d i = -1
  | 0, _, _, _ => rfl
  | k + 1, hk, d, hd => by
    have hf : l[k]? = some l[k] := List.getElem?_eq_getElem (by omega)
    unfold lastBefore
    rw [hf]
    simp only
    rw [if_neg (by have := okAt_depth ((allOk_iff l).1 h k (by omega)) hf; omega)]
    exact lastBefore_neg h k (by omega) d hd
theorem chk_zero {l : List Fr} (h : chk l = 0) : allOk l = true ∧ l ≠ [] ∧ l.length ≤ 2048 := by
  unfold chk at h
  split at h
  · omega
  · split at h
    · omega
    · split at h
      · exact ⟨‹_›, by rintro rfl; simp_all, by omega⟩
      · omega

/-- the parent, as hang tells it -/
theorem parent_in {l : List Fr} (h : chk l = 0) {i p : Int} (hm : (i, p) ∈ hangs l) : parentOf l i = p := by
  obtain ⟨ha, hne, h2⟩ := chk_zero h
  obtain ⟨k, hk⟩ := List.getElem?_of_mem hm
  have hkl := (List.getElem?_eq_some_iff.1 hk).1
  have hlen := (hangs_len l).1
  rw [hangs_at l k hkl] at hk
  simp only [Option.some.injEq, Prod.mk.injEq] at hk
  obtain ⟨rfl, rfl⟩ := hk
  have hf : l[k]? = some l[k] := List.getElem?_eq_getElem (by omega)
  have hd := okAt_depth ((allOk_iff l).1 ha k (by omega)) hf
  unfold parentOf par
  rw [if_neg (by omega)]
  simp only [Int.toNat_natCast, hf]
  by_cases h0 : 0 < l[k].depth
  · rw [if_pos h0]
  · rw [if_neg h0]
    exact lastBefore_neg ha k (by omega) _ (by omega)
theorem parent_out {l : List Fr} {i : Int} (h : chk l ≠ 0 ∨ ∀ p, (i, p) ∉ hangs l) : parentOf l i = -1 := by
  unfold parentOf
  by_cases hc : i < 0 ∨ l.length ≤ i ∨ chk l ≠ 0
  · rw [if_pos hc]
  · exfalso
    have h0 : chk l = 0 := by
      by_cases e : chk l = 0
      · exact e
      · exact absurd (.inr (.inr e)) hc
    obtain ⟨ha, hne, h2⟩ := chk_zero h0
    rcases h with h | h
    · exact h h0
    · have hl := (hangs_len l).2.2 ha
      refine h (par l i.toNat) ?_
      have := hangs_at l i.toNat (by omega)
      rw [show ((i.toNat : Nat) : Int) = i from by omega] at this
      exact List.mem_of_getElem? this

/-! ### End -/
theorem endFrom_le (l : List Fr) (d : Int) : ∀ n k : Nat, endFrom l d n k ≤ k + n
  | 0, k => by simp [endFrom]
  | n + 1, k => by
    unfold endFrom
    split
    · omega
    · split
      · have := endFrom_le l d n (k + 1); omega
      · omega

end Go.Proofs.Ytiljpbncfofnhaa.FCheck
