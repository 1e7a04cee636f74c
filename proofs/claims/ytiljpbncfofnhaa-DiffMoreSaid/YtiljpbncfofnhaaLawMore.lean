/- DiffMore: a fragment more behind the last one of the new tree makes the stay longer by one at most, and never shorter: whatever the input, the law returns true and leaves its arguments as they were. -/
import Derived.Test.YtiljpbncfofnhaaDfS
import Derived.Test.YtiljpbncfofnhaaDfP
import Derived.Test.YtiljpbncfofnhaaOpen
import Derived.Test.YtiljpbncfofnhaaLift
import Derived.Outline
import Derived.BigQuiet
import Derived.Deep.QuietTactic
import Derived.Deep.RegionWith
import Derived.Deep.RegionHeld3
import Derived.Deep.DrawnRows
import Derived.Deep.LoopGhost
import Derived.Deep.DeepCutAuto
import Derived.Laws.EntriesVeiled
import Derived.BigQuiet
namespace Go.Proofs.Ytiljpbncfofnhaa.lawMore
open Go.RowKit Go.ChangeShapes Go.WideShapes Go.ChangeAt
set_option linter.unusedVariables false
set_option linter.unusedSimpArgs false
attribute [local go_sem ↓] Go.wp_at_zero Go.wp_at_succ
open FragA FragB MayA Tree FCheck EdB EdC EdF Dif
/-! ### a fragment by value, as it comes in -/
set_option maxRecDepth 100000 in
theorem open_fr {H : Type} {ench : TypeId × Value → H} {w : World} {base : Nat} {held : Bool} {r0 : Reach} {b0 : Nat} {v : Value} {d : DataW H} {p : List MemPlace} (hv : Value.okWide Try.prog w r0 b0 67 v) (h : DataW.Trod ench Try.prog w base (fun _ => true) held 67 v d p) (hwt : Light Try.prog 67 d) :
    ∃ f : Fr, v = f.agg ∧ f.Wf := by
  obtain ⟨⟨cs⟩, rfl, hsz⟩ := okWide_struct Try.underlying67 hv
  obtain ⟨fuel, hf0⟩ := h
  obtain ⟨f, hf, hwf⟩ := opens_fr fuel cs _ hf0 hwt
  exact ⟨f, by rw [hf]; rfl, hwf⟩
theorem own_empty (W : World) : OwnA (W.alloc (.cells #[] 67)) 67 8 Fr.cells (.slice (some ⟨W.heap.size, 0, none⟩) 0 0) ([] : List Fr) :=
  .inr ⟨W.heap.size, 0, 0, #[], rfl, heap_alloc_new W _, Nat.le_refl _, by simp [maxLen], by simp, rfl⟩
theorem reach72 {n cap : Nat} (h : cap * Try.prog.bytesOf 67 ≤ reachBytes) (hn : n ≤ cap) : n + 1 ≤ maxLen ∧ n * 72 ≤ 140737488351232 := by
  have hby : Try.prog.bytesOf 67 = 72 := by kernel_rfl
  rw [hby] at h
  have hr : reachBytes = 140737488351232 := by decide
  rw [hr] at h
  unfold maxLen
  omega
/-! ### plainly -/
theorem need_more (fs : List (Option Nat)) (o : Option Nat) : needOf fs ≤ needOf (fs ++ [o]) ∧ needOf (fs ++ [o]) ≤ needOf fs + 1 := by
  constructor
  · obtain ⟨c, h1, h2, h3⟩ := rise_met fs
    rw [← h3]
    exact rise_le (h1.trans (List.sublist_append_left _ _)) h2
  · obtain ⟨c, h1, h2, h3⟩ := rise_met (fs ++ [o])
    obtain ⟨l1, l2, h4, h5, h6⟩ := List.sublist_append_iff.1 h1
    obtain ⟨c1, c2, rfl, rfl, rfl⟩ := List.map_eq_append_iff.1 h4
    have h7 := rise_le h5 (List.pairwise_append.1 h2).1
    have h8 := h6.length_le
    simp only [List.length_map, List.length_cons, List.length_nil] at h8
    rw [List.length_append] at h3
    omega
theorem stay_more (a b : List Fr) (f : Fr) : (stayL a b).length ≤ (stayL a (b ++ [f])).length ∧ (stayL a (b ++ [f])).length ≤ (stayL a b).length + 1 := by
  rw [stayL_need, stayL_need, List.map_append]
  exact need_more _ _
set_option maxRecDepth 100000 in
set_option maxHeartbeats 8000000 in
theorem walk (a b : List Fr) (f : Fr) (A : Option Addr) (ca : Nat) (B : Option Addr) (cb : Nat) (w : World) (ha : FrSl w w.heap.size A a) (h63 : a.length ≤ maxLen) (hwa : FrsWf a) (hb : FrSl w w.heap.size B b) (m63 : b.length + 1 ≤ maxLen) (hwb : FrsWf b) (hr : b.length * 72 ≤ 140737488351232) (hwf : f.Wf) :
    Calls Try.prog 8 #[.slice A a.length ca, .slice B b.length cb, f.agg] w fun e w' => e = .returned (.bool true) ∧ Below w.heap.size w w' := by
  obtain ⟨na, hna⟩ : ∃ n, Hid (n = a.length) := ⟨_, rfl⟩
  obtain ⟨nb, hnb⟩ : ∃ n, Hid (n = b.length) := ⟨_, rfl⟩
  rw [← hna.out] at h63 ⊢
  rw [← hnb.out] at m63 hr ⊢
  obtain ⟨j0, hj, hjz, hjz1, hjz2⟩ := info_parts frInfo
  have HA := Lib.hid (And.intro ha hwa)
  have HBs := Lib.hid (And.intro hb hwb)
  have HAw := fun W => Lib.hid (awake_any W)
  have a1 : Hid (([] : List Fr).length + b.length ≤ maxLen) := by rw [Hid, ← hnb.out]; simp; omega
  have a2 : Hid ((([] : List Fr).length + b.length) * 72 ≤ 140737488355328) := by rw [Hid, ← hnb.out]; simp; omega
  have a3 : Hid (([] ++ b).length + [f].length ≤ maxLen) := by rw [Hid, List.nil_append, ← hnb.out]; exact m63
  have a4 : Hid ((([] ++ b).length + [f].length) * 72 ≤ 140737488355328) := by rw [Hid, List.nil_append, ← hnb.out]; simp only [List.length_cons, List.length_nil]; omega
  clear ha hwa hb hwb
  have HWf := Lib.hid hwf
  clear hwf
  unfold Fr.agg
  go_enter Try.func8, Try.ntmps8
  go_wp2_with fail
  have HQ0 : Hid (Blk (w.alloc (.cells #[.int .i64 f.node, .int .i64 f.part, .int .i64 f.depth, .int .i64 f.x, .int .i64 f.y, .int .i64 f.w, .int .i64 f.h, .string f.text] 67)) w.heap.size 67 f.cells.toArray ∧ Below w.heap.size w (w.alloc (.cells #[.int .i64 f.node, .int .i64 f.part, .int .i64 f.depth, .int .i64 f.x, .int .i64 f.y, .int .i64 f.w, .int .i64 f.h, .string f.text] 67))) := ⟨Blk.new w _ _, EdF.below_a _ _⟩
  refine ((HAw _).out).mono ?_; rintro e w1 ⟨rfl, hb1⟩
  have HQ : Hid (Blk w1 w.heap.size 67 f.cells.toArray ∧ Below w.heap.size w w1) := ⟨HQ0.out.1.ext hb1, ext_under HQ0.out.2 (Nat.le_refl _) hb1⟩
  clear hb1 HQ0 HAw
  go_upto_region 3 with fail
  have HBl := Lib.hid (slw HBs.out.1 HQ.out.2)
  go_cut [7] (fun s7 wx => ∃ A9 n9 c9, s7 = .slice A9 n9 c9 ∧ Hid (OwnA wx 67 8 Fr.cells (.slice A9 n9 c9) (b ++ [f]) ∧ Below w.heap.size w wx))
  case first =>
    have hQ1 := HQ.out.1
    have hBe := Lib.hid HQ.out.2
    refine wp_region_held_drew (S := fun w' => Blk w' w.heap.size 67 f.cells.toArray) (by kernel_rfl) hQ1.drew (fun hHeld => ?_)
    try simp only [Act.put, List.setIfInBounds_toArray, List.set_cons_zero, List.set_cons_succ]
    (refine wpAnyH_take (i := 1) (oi := { dst := some 15, op := _, type := _, pos := _, after := _, guard := _ }) (v := ?_) rfl (by kernel_rfl) (by kernel_rfl) (by kernel_rfl) (fun _ _ _ h => h) (Or.inl ⟨by kernel_rfl, (by intro W' hS'; obtain ⟨y0, y1, y2, y3, y4, y5, y6, y7⟩ := EdC.fbox_cells hS'; go_simp; try with_reducible rfl)⟩) (by assumption) ?_; (try simp only [Act.put, List.setIfInBounds_toArray, List.set_cons_zero, List.set_cons_succ]))
    (refine wpAnyH_take (i := 3) (oi := { dst := some 17, op := _, type := _, pos := _, after := _, guard := _ }) (v := ?_) rfl (by kernel_rfl) (by kernel_rfl) (by kernel_rfl) (fun _ _ _ h => h) (Or.inl ⟨by kernel_rfl, (by intro W' hS'; obtain ⟨y0, y1, y2, y3, y4, y5, y6, y7⟩ := EdC.fbox_cells hS'; go_simp; try with_reducible rfl)⟩) (by assumption) ?_; (try simp only [Act.put, List.setIfInBounds_toArray, List.set_cons_zero, List.set_cons_succ]))
    have e0 := own_empty w1
    have s1 : (w1.alloc (.cells #[] 67)).heap.size = w1.heap.size + 1 := by simp
    have s2 : (w1.alloc (.cells #[.int .i64 f.node, .int .i64 f.part, .int .i64 f.depth, .int .i64 f.x, .int .i64 f.y, .int .i64 f.w, .int .i64 f.h, .string f.text] 67)).heap.size = w1.heap.size + 1 := by simp
    have hgl := hQ1.lt
    refine wpAnyH_ready (rs := [0, 4]) (by kernel_rfl) (by simp) ?_
    refine AllReadyH.cons (o := { dst := some 14, op := _, type := _, pos := _, after := _, guard := _ }) rfl (fun K hK => ?_) (AllReadyH.cons (o := { dst := some 18, op := _, type := _, pos := _, after := _, guard := _ }) rfl (fun K hK => ?_) AllReadyH.nil)
    · go_simp
      refine hK.out _ _ (hQ1.ext (EdF.below_a _ _)).drew (fun hHeld2 => ?_)
      clear hK K
      try simp only [Act.put, List.setIfInBounds_toArray, List.set_cons_zero, List.set_cons_succ]
      refine wpAnyH_ready (rs := [2, 4]) (by kernel_rfl) (by simp) ?_
      refine AllReadyH.cons (o := { dst := some 16, op := _, type := _, pos := _, after := _, guard := _ }) rfl (fun K hK => ?_) (AllReadyH.cons (o := { dst := some 18, op := _, type := _, pos := _, after := _, guard := _ }) rfl (fun K hK => ?_) AllReadyH.nil)
      · have HO1 : OwnA (w1.alloc (.cells #[] 67)).drew 67 8 Fr.cells (.slice (some ⟨w1.heap.size, 0, none⟩) 0 0) ([] : List Fr) := e0.drew
        have HL1 : FrSl (w1.alloc (.cells #[] 67)).drew (w1.alloc (.cells #[] 67)).drew.heap.size B b := slw HBl.out (EdF.below_a _ _).drew
        refine Eq.mpr (if_pos (by kernel_rfl)) ?_; refine wp_append_a _ (.tmp 14) (.tmp 15) 59 rfl 67 j0 _ 8 72 Try.underlying59 hj hjz hjz1 hjz2 rfl (by decide) Fr.cells_len Fr.cells_one (.slice (some ⟨w1.heap.size, 0, none⟩) 0 0) ([] : List Fr) rfl HO1 _ B b nb cb rfl hnb.out HL1 a1.out a2.out ?_; intro v' w9 hown hchg hat; obtain ⟨A9, n9, c9, rfl, _, _, _, _⟩ := hown.form
        have hb9 : Below w1.heap.size w1 w9 := (EdF.below_a w1 (.cells #[] 67)).drew.trans (hchg.below (by simp) (fun i hi e => by simp [Value.ownBlock] at e; omega))
        have hv9 : ∀ g, (Value.slice A9 n9 c9).ownBlock = some g → ¬ g < w1.heap.size := fun g e => by
          rcases hat with h | h
          · rw [h] at e; simp [Value.ownBlock] at e; omega
          · rw [h] at e; injection e with e; simp at e; omega
        have hQ9 := hQ1.ext hb9
        have hb9b : Below w1.heap.size w1 (w9.alloc (.cells #[.int .i64 f.node, .int .i64 f.part, .int .i64 f.depth, .int .i64 f.x, .int .i64 f.y, .int .i64 f.w, .int .i64 f.h, .string f.text] 67)) := ext_under hb9 (Nat.le_refl _) (EdF.below_a _ _)
        have hQ9b : Blk (w9.alloc (.cells #[.int .i64 f.node, .int .i64 f.part, .int .i64 f.depth, .int .i64 f.x, .int .i64 f.y, .int .i64 f.w, .int .i64 f.h, .string f.text] 67)) w.heap.size 67 f.cells.toArray := hQ9.ext (EdF.below_a _ _)
        have HO2 := hown.ext (EdF.below_a w9 (.cells #[.int .i64 f.node, .int .i64 f.part, .int .i64 f.depth, .int .i64 f.x, .int .i64 f.y, .int .i64 f.w, .int .i64 f.h, .string f.text] 67))
        have HL2 := EdF.fr_lit w9 f
        refine hK.out _ _ hQ9 (fun hHeld3 => ?_)
        clear hK K
        try simp only [Act.put, List.setIfInBounds_toArray, List.set_cons_zero, List.set_cons_succ]
        refine wpAnyH_ready (rs := [4]) (by kernel_rfl) (by simp) ?_
        refine AllReadyH.cons (o := { dst := some 18, op := _, type := _, pos := _, after := _, guard := _ }) rfl (fun K hK => ?_) AllReadyH.nil
        go_simp
        refine hK.out _ _ hQ9b (fun hHeld4 => ?_)
        clear hK K
        try simp only [Act.put, List.setIfInBounds_toArray, List.set_cons_zero, List.set_cons_succ]
        refine wpAnyH_ready (rs := [5]) (by kernel_rfl) (by simp) ?_
        refine AllReadyH.cons (o := { dst := some 19, op := _, type := _, pos := _, after := _, guard := _ }) rfl (fun K hK => ?_) AllReadyH.nil
        refine Eq.mpr (if_pos (by kernel_rfl)) ?_; refine wp_append_a _ (.tmp 16) (.tmp 18) 59 rfl 67 j0 _ 8 72 Try.underlying59 hj hjz hjz1 hjz2 rfl (by decide) Fr.cells_len Fr.cells_one (.slice A9 n9 c9) ([] ++ b) rfl HO2 _ (some ⟨w9.heap.size, 0, none⟩) [f] 1 1 rfl rfl HL2 a3.out a4.out ?_; intro v' w10 hown2 hchg2 hat2; obtain ⟨A8, n8, c8, rfl, _, _, _, _⟩ := hown2.form
        refine hK.out _ _ (hQ9b.chg hchg2 (fun e => ?_)) (fun hHeld6 => ?_)
        · exact absurd e (fun e => hv9 _ e (by have := hQ1.lt; omega))
        clear hK K
        try simp only [Act.put, List.setIfInBounds_toArray, List.set_cons_zero, List.set_cons_succ]
        (refine wpAnyH_take (i := 6) (oi := { dst := some 7, op := _, type := _, pos := _, after := _, guard := _ }) (v := ?_) rfl (by kernel_rfl) (by kernel_rfl) (by kernel_rfl) (fun _ _ _ h => h) (Or.inl ⟨by kernel_rfl, (by intro W' hS'; obtain ⟨y0, y1, y2, y3, y4, y5, y6, y7⟩ := EdC.fbox_cells hS'; go_simp; try with_reducible rfl)⟩) (by assumption) ?_; (try simp only [Act.put, List.setIfInBounds_toArray, List.set_cons_zero, List.set_cons_succ]))
        refine wpAnyH_done (by kernel_rfl) ?_ _
        go_wp2
        go_meet
        exact ⟨A8, n8, c8, rfl, by rw [List.nil_append] at hown2; exact hown2, ext_under hBe.out (Nat.le_refl _) (hb9b.trans (hchg2.below (hb9b.size) (fun i hi e => hv9 i e (by omega))))⟩
      · go_simp
        have HO1 : OwnA ((w1.alloc (.cells #[] 67)).alloc (.cells #[.int .i64 f.node, .int .i64 f.part, .int .i64 f.depth, .int .i64 f.x, .int .i64 f.y, .int .i64 f.w, .int .i64 f.h, .string f.text] 67)).drew 67 8 Fr.cells (.slice (some ⟨w1.heap.size, 0, none⟩) 0 0) ([] : List Fr) := (e0.ext (EdF.below_a _ _)).drew
        have hbb : Below w1.heap.size w1 ((w1.alloc (.cells #[] 67)).alloc (.cells #[.int .i64 f.node, .int .i64 f.part, .int .i64 f.depth, .int .i64 f.x, .int .i64 f.y, .int .i64 f.w, .int .i64 f.h, .string f.text] 67)).drew := (ext_under (EdF.below_a _ _) (Nat.le_refl _) (EdF.below_a _ _)).drew
        have HL1 : FrSl ((w1.alloc (.cells #[] 67)).alloc (.cells #[.int .i64 f.node, .int .i64 f.part, .int .i64 f.depth, .int .i64 f.x, .int .i64 f.y, .int .i64 f.w, .int .i64 f.h, .string f.text] 67)).drew ((w1.alloc (.cells #[] 67)).alloc (.cells #[.int .i64 f.node, .int .i64 f.part, .int .i64 f.depth, .int .i64 f.x, .int .i64 f.y, .int .i64 f.w, .int .i64 f.h, .string f.text] 67)).drew.heap.size B b := slw HBl.out hbb
        have HLf : FrSl ((w1.alloc (.cells #[] 67)).alloc (.cells #[.int .i64 f.node, .int .i64 f.part, .int .i64 f.depth, .int .i64 f.x, .int .i64 f.y, .int .i64 f.w, .int .i64 f.h, .string f.text] 67)).drew ((w1.alloc (.cells #[] 67)).alloc (.cells #[.int .i64 f.node, .int .i64 f.part, .int .i64 f.depth, .int .i64 f.x, .int .i64 f.y, .int .i64 f.w, .int .i64 f.h, .string f.text] 67)).drew.heap.size (some ⟨w1.heap.size + 1, 0, none⟩) [f] := by
          have h := EdF.fr_lit (w1.alloc (.cells #[] 67)) f
          rw [s1] at h
          exact h
        refine hK.out _ _ (hQ1.ext hbb) (fun hHeld3 => ?_)
        clear hK K
        try simp only [Act.put, List.setIfInBounds_toArray, List.set_cons_zero, List.set_cons_succ]
        refine wpAnyH_ready (rs := [2]) (by kernel_rfl) (by simp) ?_
        refine AllReadyH.cons (o := { dst := some 16, op := _, type := _, pos := _, after := _, guard := _ }) rfl (fun K hK => ?_) AllReadyH.nil
        refine Eq.mpr (if_pos (by kernel_rfl)) ?_; refine wp_append_a _ (.tmp 14) (.tmp 15) 59 rfl 67 j0 _ 8 72 Try.underlying59 hj hjz hjz1 hjz2 rfl (by decide) Fr.cells_len Fr.cells_one (.slice (some ⟨w1.heap.size, 0, none⟩) 0 0) ([] : List Fr) rfl HO1 _ B b nb cb rfl hnb.out HL1 a1.out a2.out ?_; intro v' w9 hown hchg hat; obtain ⟨A9, n9, c9, rfl, _, _, _, _⟩ := hown.form
        have hb9b : Below w1.heap.size w1 w9 := hbb.trans (hchg.below (by simp; omega) (fun i hi e => by simp [Value.ownBlock] at e; omega))
        have hv9 : ∀ g, (Value.slice A9 n9 c9).ownBlock = some g → ¬ g < w1.heap.size := fun g e => by
          rcases hat with h | h
          · rw [h] at e; simp [Value.ownBlock] at e; omega
          · rw [h] at e; injection e with e; simp at e; omega
        have hQ9b := hQ1.ext hb9b
        have HO2 := hown
        have HL2 := HLf.chgN hchg (fun _ g hg e => by simp [blockOf] at hg; simp [Value.ownBlock] at e; omega)
        refine hK.out _ _ hQ9b (fun hHeld4 => ?_)
        clear hK K
        try simp only [Act.put, List.setIfInBounds_toArray, List.set_cons_zero, List.set_cons_succ]
        refine wpAnyH_ready (rs := [5]) (by kernel_rfl) (by simp) ?_
        refine AllReadyH.cons (o := { dst := some 19, op := _, type := _, pos := _, after := _, guard := _ }) rfl (fun K hK => ?_) AllReadyH.nil
        refine Eq.mpr (if_pos (by kernel_rfl)) ?_; refine wp_append_a _ (.tmp 16) (.tmp 18) 59 rfl 67 j0 _ 8 72 Try.underlying59 hj hjz hjz1 hjz2 rfl (by decide) Fr.cells_len Fr.cells_one (.slice A9 n9 c9) ([] ++ b) rfl HO2 _ (some ⟨w1.heap.size + 1, 0, none⟩) [f] 1 1 rfl rfl HL2 a3.out a4.out ?_; intro v' w10 hown2 hchg2 hat2; obtain ⟨A8, n8, c8, rfl, _, _, _, _⟩ := hown2.form
        refine hK.out _ _ (hQ9b.chg hchg2 (fun e => ?_)) (fun hHeld6 => ?_)
        · exact absurd e (fun e => hv9 _ e (by have := hQ1.lt; omega))
        clear hK K
        try simp only [Act.put, List.setIfInBounds_toArray, List.set_cons_zero, List.set_cons_succ]
        (refine wpAnyH_take (i := 6) (oi := { dst := some 7, op := _, type := _, pos := _, after := _, guard := _ }) (v := ?_) rfl (by kernel_rfl) (by kernel_rfl) (by kernel_rfl) (fun _ _ _ h => h) (Or.inl ⟨by kernel_rfl, (by intro W' hS'; obtain ⟨y0, y1, y2, y3, y4, y5, y6, y7⟩ := EdC.fbox_cells hS'; go_simp; try with_reducible rfl)⟩) (by assumption) ?_; (try simp only [Act.put, List.setIfInBounds_toArray, List.set_cons_zero, List.set_cons_succ]))
        refine wpAnyH_done (by kernel_rfl) ?_ _
        go_wp2
        go_meet
        exact ⟨A8, n8, c8, rfl, by rw [List.nil_append] at hown2; exact hown2, ext_under hBe.out (Nat.le_refl _) (hb9b.trans (hchg2.below (hb9b.size) (fun i hi e => hv9 i e (by omega))))⟩
    · go_simp
      have HO1 : OwnA ((w1.alloc (.cells #[.int .i64 f.node, .int .i64 f.part, .int .i64 f.depth, .int .i64 f.x, .int .i64 f.y, .int .i64 f.w, .int .i64 f.h, .string f.text] 67)).alloc (.cells #[] 67)).drew 67 8 Fr.cells (.slice (some ⟨w1.heap.size + 1, 0, none⟩) 0 0) ([] : List Fr) := by
        have h := own_empty (w1.alloc (.cells #[.int .i64 f.node, .int .i64 f.part, .int .i64 f.depth, .int .i64 f.x, .int .i64 f.y, .int .i64 f.w, .int .i64 f.h, .string f.text] 67))
        rw [s2] at h
        exact h.drew
      have hbb : Below w1.heap.size w1 ((w1.alloc (.cells #[.int .i64 f.node, .int .i64 f.part, .int .i64 f.depth, .int .i64 f.x, .int .i64 f.y, .int .i64 f.w, .int .i64 f.h, .string f.text] 67)).alloc (.cells #[] 67)).drew := (ext_under (EdF.below_a _ _) (Nat.le_refl _) (EdF.below_a _ _)).drew
      have HL1 : FrSl ((w1.alloc (.cells #[.int .i64 f.node, .int .i64 f.part, .int .i64 f.depth, .int .i64 f.x, .int .i64 f.y, .int .i64 f.w, .int .i64 f.h, .string f.text] 67)).alloc (.cells #[] 67)).drew ((w1.alloc (.cells #[.int .i64 f.node, .int .i64 f.part, .int .i64 f.depth, .int .i64 f.x, .int .i64 f.y, .int .i64 f.w, .int .i64 f.h, .string f.text] 67)).alloc (.cells #[] 67)).drew.heap.size B b := slw HBl.out hbb
      have HLf : FrSl ((w1.alloc (.cells #[.int .i64 f.node, .int .i64 f.part, .int .i64 f.depth, .int .i64 f.x, .int .i64 f.y, .int .i64 f.w, .int .i64 f.h, .string f.text] 67)).alloc (.cells #[] 67)).drew ((w1.alloc (.cells #[.int .i64 f.node, .int .i64 f.part, .int .i64 f.depth, .int .i64 f.x, .int .i64 f.y, .int .i64 f.w, .int .i64 f.h, .string f.text] 67)).alloc (.cells #[] 67)).drew.heap.size (some ⟨w1.heap.size, 0, none⟩) [f] := Sl.ext (EdF.fr_lit w1 f) (EdF.below_a _ _).drew
      refine hK.out _ _ (hQ1.ext (EdF.below_a _ _)).drew (fun hHeld2 => ?_)
      clear hK K
      try simp only [Act.put, List.setIfInBounds_toArray, List.set_cons_zero, List.set_cons_succ]
      refine wpAnyH_ready (rs := [0]) (by kernel_rfl) (by simp) ?_
      refine AllReadyH.cons (o := { dst := some 14, op := _, type := _, pos := _, after := _, guard := _ }) rfl (fun K hK => ?_) AllReadyH.nil
      go_simp
      refine hK.out _ _ (hQ1.ext hbb) (fun hHeld3 => ?_)
      clear hK K
      try simp only [Act.put, List.setIfInBounds_toArray, List.set_cons_zero, List.set_cons_succ]
      refine wpAnyH_ready (rs := [2]) (by kernel_rfl) (by simp) ?_
      refine AllReadyH.cons (o := { dst := some 16, op := _, type := _, pos := _, after := _, guard := _ }) rfl (fun K hK => ?_) AllReadyH.nil
      refine Eq.mpr (if_pos (by kernel_rfl)) ?_; refine wp_append_a _ (.tmp 14) (.tmp 15) 59 rfl 67 j0 _ 8 72 Try.underlying59 hj hjz hjz1 hjz2 rfl (by decide) Fr.cells_len Fr.cells_one (.slice (some ⟨w1.heap.size + 1, 0, none⟩) 0 0) ([] : List Fr) rfl HO1 _ B b nb cb rfl hnb.out HL1 a1.out a2.out ?_; intro v' w9 hown hchg hat; obtain ⟨A9, n9, c9, rfl, _, _, _, _⟩ := hown.form
      have hb9b : Below w1.heap.size w1 w9 := hbb.trans (hchg.below (by simp; omega) (fun i hi e => by simp [Value.ownBlock] at e; omega))
      have hv9 : ∀ g, (Value.slice A9 n9 c9).ownBlock = some g → ¬ g < w1.heap.size := fun g e => by
        rcases hat with h | h
        · rw [h] at e; simp [Value.ownBlock] at e; omega
        · rw [h] at e; injection e with e; simp at e; omega
      have hQ9b := hQ1.ext hb9b
      have HO2 := hown
      have HL2 := HLf.chgN hchg (fun _ g hg e => by simp [blockOf] at hg; simp [Value.ownBlock] at e; omega)
      refine hK.out _ _ hQ9b (fun hHeld4 => ?_)
      clear hK K
      try simp only [Act.put, List.setIfInBounds_toArray, List.set_cons_zero, List.set_cons_succ]
      refine wpAnyH_ready (rs := [5]) (by kernel_rfl) (by simp) ?_
      refine AllReadyH.cons (o := { dst := some 19, op := _, type := _, pos := _, after := _, guard := _ }) rfl (fun K hK => ?_) AllReadyH.nil
      refine Eq.mpr (if_pos (by kernel_rfl)) ?_; refine wp_append_a _ (.tmp 16) (.tmp 18) 59 rfl 67 j0 _ 8 72 Try.underlying59 hj hjz hjz1 hjz2 rfl (by decide) Fr.cells_len Fr.cells_one (.slice A9 n9 c9) ([] ++ b) rfl HO2 _ (some ⟨w1.heap.size, 0, none⟩) [f] 1 1 rfl rfl HL2 a3.out a4.out ?_; intro v' w10 hown2 hchg2 hat2; obtain ⟨A8, n8, c8, rfl, _, _, _, _⟩ := hown2.form
      refine hK.out _ _ (hQ9b.chg hchg2 (fun e => ?_)) (fun hHeld6 => ?_)
      · exact absurd e (fun e => hv9 _ e (by have := hQ1.lt; omega))
      clear hK K
      try simp only [Act.put, List.setIfInBounds_toArray, List.set_cons_zero, List.set_cons_succ]
      (refine wpAnyH_take (i := 6) (oi := { dst := some 7, op := _, type := _, pos := _, after := _, guard := _ }) (v := ?_) rfl (by kernel_rfl) (by kernel_rfl) (by kernel_rfl) (fun _ _ _ h => h) (Or.inl ⟨by kernel_rfl, (by intro W' hS'; obtain ⟨y0, y1, y2, y3, y4, y5, y6, y7⟩ := EdC.fbox_cells hS'; go_simp; try with_reducible rfl)⟩) (by assumption) ?_; (try simp only [Act.put, List.setIfInBounds_toArray, List.set_cons_zero, List.set_cons_succ]))
      refine wpAnyH_done (by kernel_rfl) ?_ _
      go_wp2
      go_meet
      exact ⟨A8, n8, c8, rfl, by rw [List.nil_append] at hown2; exact hown2, ext_under hBe.out (Nat.le_refl _) (hb9b.trans (hchg2.below (hb9b.size) (fun i hi e => hv9 i e (by omega))))⟩
  case rest =>
    obtain ⟨A9, n9, c9, rfl, HO⟩ := hcut
    have hn9 : n9 = (b ++ [f]).length := OwnA.len HO.out.1
    have Hn9 := Lib.hid hn9
    have hn9b : n9 = nb + 1 := by rw [hn9, List.length_append, hnb.out]; rfl
    have HM := Lib.hid (HO.out.1.sl Fr.cells_len)
    have HBe := Lib.hid HO.out.2
    have hwm : Hid (FrsWf (b ++ [f])) := fun x hx => by
      rcases List.mem_append.1 hx with h | h
      · exact HBs.out.2 x h
      · rw [List.mem_singleton] at h; subst h; exact HWf.out
    clear HO HQ HBl hn9
    subst hn9b
    obtain ⟨g1, hg1⟩ : ∃ g, Hid (lawGreat a b = g) := ⟨_, rfl⟩
    obtain ⟨g2, hg2⟩ : ∃ g, Hid (lawGreat a (b ++ [f]) = g) := ⟨_, rfl⟩
    have G1 := Lib.hid (lawgreat_any a b A B na ca nb cb wc (slw HA.out.1 HBe.out) HA.out.2 hna (slw HBs.out.1 HBe.out) HBs.out.2 hnb h63 (by omega))
    have G2 := fun W (hW : Below wc.heap.size wc W) => Lib.hid (lawgreat_any a (b ++ [f]) A A9 na ca (nb + 1) c9 W (slw HA.out.1 (ext_under HBe.out (Nat.le_refl _) hW)) HA.out.2 hna (slw HM.out hW) hwm.out Hn9 h63 m63)
    rw [hg1.out] at G1
    simp only [hg2.out] at G2
    cases g1 with
    | true =>
      go_wp2_with fail
      refine (G1.out).mono ?_; rintro e w3 ⟨rfl, hb3⟩
      have HB3 := Lib.hid (ext_under HBe.out (Nat.le_refl _) hb3)
      clear hb3
      go_wp2
      go_ret
      exact ⟨rfl, HB3.out⟩
    | false =>
      cases g2 with
      | true =>
        go_wp2_with fail
        refine (G1.out).mono ?_; rintro e w3 ⟨rfl, hb3⟩
        have HB3 := Lib.hid hb3
        clear hb3
        go_wp2_with fail
        refine ((G2 _ HB3.out).out).mono ?_; rintro e w4 ⟨rfl, hb4⟩
        have HB4 := Lib.hid (ext_under (ext_under HBe.out (Nat.le_refl _) HB3.out) (Nat.le_refl _) hb4)
        clear hb4
        go_wp2
        go_ret
        exact ⟨rfl, HB4.out⟩
      | false =>
        obtain ⟨la, lb, ca0, cb0⟩ := lawgreat_no hg1.out
        obtain ⟨_, lm, _, cm0⟩ := lawgreat_no hg2.out
        have E1 : Hid (stayE a b = (stayL a b, 0)) := by rw [Hid, stayE, if_neg (by simp [ca0, cb0])]
        have E2 : Hid (stayE a (b ++ [f]) = (stayL a (b ++ [f]), 0)) := by rw [Hid, stayE, if_neg (by simp [ca0, cm0])]
        obtain ⟨hm1, hm2⟩ := stay_more a b f
        obtain ⟨p, hp⟩ : ∃ p, Hid (p = (stayL a b).length) := ⟨_, rfl⟩
        obtain ⟨q, hq⟩ : ∃ q, Hid (q = (stayL a (b ++ [f])).length) := ⟨_, rfl⟩
        have hpl := stayL_len a b
        rw [← hp.out] at hm1 hm2 hpl
        rw [← hq.out] at hm1 hm2
        have S1 := fun W (hW : Below wc.heap.size wc W) => Lib.hid (by have h := stay_any a b A B na ca nb cb W (slw HA.out.1 (ext_under HBe.out (Nat.le_refl _) hW)) HA.out.2 hna (slw HBs.out.1 (ext_under HBe.out (Nat.le_refl _) hW)) HBs.out.2 hnb; rw [E1.out] at h; exact h)
        have S2 := fun W (hW : Below wc.heap.size wc W) => Lib.hid (by have h := stay_any a (b ++ [f]) A A9 na ca (nb + 1) c9 W (slw HA.out.1 (ext_under HBe.out (Nat.le_refl _) hW)) HA.out.2 hna (slw HM.out hW) hwm.out Hn9; rw [E2.out] at h; exact h)
        have w1 : IntKind.i64.wrap ((p : Int) + 1) = ((p + 1 : Nat) : Int) := by rw [IntWalk.i64_in _ (by omega)]; omega
        have hq1 : decide (p ≤ q) = true := decide_eq_true hm1
        have hq2 : decide (q ≤ p + 1) = true := decide_eq_true hm2
        have hq3 : (p : Int) ≤ (q : Int) := by omega
        have hq4 : (q : Int) ≤ (p : Int) + 1 := by omega
        clear ca0 cb0 cm0
        go_wp2_with fail
        refine (G1.out).mono ?_; rintro e w3 ⟨rfl, hb3⟩
        have HB3 := Lib.hid hb3
        clear hb3
        go_wp2_with fail
        refine ((G2 _ HB3.out).out).mono ?_; rintro e w4 ⟨rfl, hb4⟩
        have HB4 := Lib.hid (ext_under HB3.out (Nat.le_refl _) hb4)
        clear hb4
        go_wp2_with fail
        refine ((S1 _ HB4.out).out).mono ?_; rintro e w5 ⟨v5, rfl, ho5, _, hb5⟩
        obtain ⟨A5, n5, c5, rfl, hn5, _, _, _⟩ := ho5.form
        obtain rfl : n5 = p := by rw [hp.out]; exact hn5.out
        have HB5 := Lib.hid (ext_under HB4.out (Nat.le_refl _) hb5)
        clear hb5 ho5 hn5
        go_wp2_with fail
        refine ((S2 _ HB5.out).out).mono ?_; rintro e w6 ⟨v6, rfl, ho6, _, hb6⟩
        obtain ⟨A6, n6, c6, rfl, hn6, _, _, _⟩ := ho6.form
        obtain rfl : n6 = q := by rw [hq.out]; exact hn6.out
        have HB6 := Lib.hid (ext_under HBe.out (Nat.le_refl _) (ext_under HB5.out (Nat.le_refl _) hb6))
        clear hb6 ho6 hn6
        go_wp2
        go_ret
        exact ⟨rfl, HB6.out⟩
set_option maxRecDepth 100000 in
theorem lifted (os : Os) (started : os.Started) (H : Type) (enc : TypeId × Value → H) :
    ReturnsInHanded {} Try.checked os 8 .any (Rows.diffMoreSpec.pre6 enc Try.prog Try.f8 Rows.diffMoreRow.domain false) (Rows.diffMoreSpec.post enc Try.prog Try.f8 false true false false) := by
  refine returnsInHanded_of_change_sized (C := Try.checked) own started (by kernel_rfl) Try.func8
    (ChangeSpec.witness6 (enc := enc) (C := Try.checked) false ⟨#[], #[.slice none 0 0, .slice none 0 0, .agg #[.int .i64 0, .int .i64 0, .int .i64 0, .int .i64 0, .int .i64 0, .int .i64 0, .int .i64 0, .string ByteArray.empty]], []⟩ 8 (by kernel_rfl) (by kernel_rfl) (by kernel_rfl) (by kernel_rfl)) ?_
  intro W base args ds gs before hval0 hW hcnd hsz0 _
  have hval : ∀ (j : Nat) t v, Try.f8.params[j]? = some t → args[j]? = some v → Value.okWide Try.prog W .any base t v := hval0
  have hW' := hW
  obtain ⟨p, q, hA0, hV, rfl, hfz, hnd⟩ := hW
  have hA : DataW.TrodAll enc Try.prog W 0 (fun _ => true) true Try.f8.params.toList args.toList ds p := hA0
  have hsz : (DataW.weightsEach Try.prog (Try.f8.params.toList ++ []) (ds ++ gs)).all (· ≤ reachBytes) = true := hsz0
  rw [Try.params8] at hA hval hsz
  have hAll := hA
  obtain ⟨v0, vs0, d0, ds0, p0, q0, hargs, rfl, rfl, h0, r0⟩ := trodAll_cons hA
  obtain ⟨v1, vs1, d1, ds1, p1, q1, rfl, rfl, rfl, h1, r1⟩ := trodAll_cons r0
  obtain ⟨v2, vs2, d2, ds2, p2, q2, rfl, rfl, rfl, h2, r2⟩ := trodAll_cons r1
  obtain ⟨rfl, rfl, rfl⟩ := trodAll_nil r2
  obtain rfl : args = #[v0, v1, v2] := by cases args; simp_all
  obtain ⟨rfl, rfl⟩ := trodVars_none hV
  obtain ⟨a_A, a, a_cap, rfl, a_sl, a_ok, a_le, a_max, a_reach, a_nil⟩ := open_sl Try.underlying59 (c := 8) (by kernel_rfl) (by decide) opens_fr (hval 0 59 v0 rfl rfl) h0 (light_of hsz (j := 0) rfl rfl)
  obtain ⟨b_A, b, b_cap, rfl, b_sl, b_ok, b_le, b_max, b_reach, b_nil⟩ := open_sl Try.underlying59 (c := 8) (by kernel_rfl) (by decide) opens_fr (hval 1 59 v1 rfl rfl) h1 (light_of hsz (j := 1) rfl rfl)
  obtain ⟨f, rfl, f_in⟩ := open_fr (hval 2 67 v2 rfl rfl) h2 (light_of hsz (j := 2) rfl rfl)
  refine (walk a b f a_A a_cap b_A b_cap W a_sl (Nat.le_trans a_le a_max) a_ok b_sl (reach72 b_reach b_le).1 b_ok (reach72 b_reach b_le).2 f_in).mono fun e W' ⟨he, bel⟩ => ?_
  subst he
  exact ⟨_, rfl, _, _, _, [], _, [], hW', trodAll_mk1 (shut_bool Try.underlying4 _), keep_args laidOut bel (by kernel_rfl) hAll, rfl, bel.frame _, fun h => by cases h⟩

theorem over : Rows.diffMoreRow.holds Try.pinned (OpenSpec.ofChange Rows.diffMoreSpec) :=
  OpenClaim.holds_of_wide 8 Try.f8 rfl rfl rfl rfl rfl rfl rfl ⟨rfl, rfl, rfl, rfl, rfl⟩ rfl rfl rfl rfl rfl (by kernel_rfl) Try.func8 (by kernel_rfl)
    (of_decide_eq_true (by kernel_rfl)) (by unfold Func.isWrapper; first | (rw [if_pos (by decide +kernel)]; kernel_rfl) | (rw [if_neg (by decide +kernel)]; exact ⟨rfl, rfl⟩))
    (fun os started H enc _ => lifted os started H enc)

theorem proved : Rows.DiffMoreSaid := over
#print axioms proved
end Go.Proofs.Ytiljpbncfofnhaa.lawMore
