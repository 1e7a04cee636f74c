/- FragSpoilt: with a number beyond its bounds, a Depth that leaps, a key that another one has, or a text that is too long, a tree is none any more: whatever the input, the law returns true and leaves its arguments as they were. -/
import Derived.Test.YtoneechcclndaaaFrC
import Derived.Test.YtoneechcclndaaaFrD
import Derived.Deep.CutBlock
import Derived.Outline
import Derived.BigQuiet
import Derived.Deep.QuietTactic
import Derived.Deep.RegionWith
import Derived.Deep.RegionHeld3
import Derived.Deep.DrawnRows
import Derived.Deep.LoopGhost
import Derived.Deep.DeepCutAuto
import Derived.Laws.EntriesVeiled
namespace Go.Proofs.Ytoneechcclndaaa.lawSpoilt
open Go.RowKit Go.ChangeShapes Go.WideShapes Go.ChangeAt
set_option linter.unusedVariables false
set_option linter.unusedSimpArgs false
attribute [local go_sem ↓] Go.wp_at_zero Go.wp_at_succ
open Go.Shelf FragA FragB MayA Tree FCheck FTr FForm Wire Word

theorem lit_i64 {z : Int} (h1 : -9223372036854775808 ≤ z) (h2 : z ≤ 9223372036854775807) : (Lit.int .i64 z).wf = true := by
  simpa [Lit.wf, IntKind.min, IntKind.max, IntKind.signed, IntKind.bits] using And.intro h1 h2
theorem set_wf {l : List Fr} {k : Nat} {f : Fr} (h : FrsWf l) (hf : f.Wf) : FrsWf (l.set k f) := fun x hx => by
  rcases List.mem_or_eq_of_mem_set hx with hx | rfl
  · exact h x hx
  · exact hf
theorem print_bad {l : List Fr} (h : chk l = 200) : printF l = ([], 200) := by unfold printF; rw [h]; rfl
theorem par_bad {l : List Fr} {i : Int} (h : chk l = 200) : parentOf l i = -1 := by unfold parentOf; rw [if_pos (.inr (.inr (by rw [h]; decide)))]
theorem end_bad {l : List Fr} {i : Int} (h : chk l = 200) : endOf l i = 0 := by unfold endOf; rw [if_pos (.inr (.inr (by rw [h]; decide)))]
/-- what stands while a fragment is spoilt -/
structure SpS (w w5 W : World) (A : Option Addr) (n c : Nat) (l : List Fr) (f : Fr) : Prop where
  box : Blk W w5.heap.size 65 #[.int .i64 f.node, .int .i64 f.part, .int .i64 f.depth, .int .i64 f.x, .int .i64 f.y, .int .i64 f.w, .int .i64 f.h, .string f.text]
  own : OwnA W 65 8 Fr.cells (.slice A n c) l
  be : Below w.heap.size w W
theorem SpS.set {w w5 W : World} {A : Option Addr} {n c : Nat} {l : List Fr} {f f' : Fr} (h : SpS w w5 W A n c l f) (i : Nat) (u : Value) (hw : w.heap.size ≤ w5.heap.size) (hA : ∀ k, (Value.slice A n c).ownBlock = some k → k ≠ w5.heap.size)
    (hf : (#[.int .i64 f.node, .int .i64 f.part, .int .i64 f.depth, .int .i64 f.x, .int .i64 f.y, .int .i64 f.w, .int .i64 f.h, .string f.text] : Array Value).setIfInBounds i u = #[.int .i64 f'.node, .int .i64 f'.part, .int .i64 f'.depth, .int .i64 f'.x, .int .i64 f'.y, .int .i64 f'.w, .int .i64 f'.h, .string f'.text]) : SpS w w5 (W.setCell ⟨w5.heap.size, i, none⟩ u) A n c l f' :=
  ⟨hf ▸ h.box.set_ i u, h.own.chg ((Chg.refl (fun k => k = w5.heap.size) _).setCell (p := ⟨w5.heap.size, i, none⟩) (fun _ => rfl) u) (fun k hk e => hA k hk e), h.be.setCell (p := ⟨w5.heap.size, i, none⟩) hw u⟩
theorem SpS.ext {w w5 W W' : World} {A : Option Addr} {n c : Nat} {l : List Fr} {f : Fr} (h : SpS w w5 W A n c l f) (hb : Below W.heap.size W W') : SpS w w5 W' A n c l f := ⟨h.box.ext hb, h.own.ext hb, ext_under h.be (Nat.le_refl _) hb⟩
theorem made_bytes {w6 : World} {base g t : Nat} (h : w6.ownsRow base 5 1 (.slice (some ⟨g, 0, none⟩) t t) t (madeCells (Value.int .u8 0).cells (t * 1)).toList) : BySl w6 w6.heap.size (some ⟨g, 0, none⟩) (List.replicate t 0) := by
  have e := made_flat encB_len (by decide) (0 : UInt8) (.int .u8 0) (by rfl) t
  have h2 : Own w6 base 5 1 encB (.slice (some ⟨g, 0, none⟩) t t) (List.replicate t 0) := by
    unfold Own
    rw [List.length_replicate, ← e]
    exact h
  exact h2.sls encB_len
theorem SpS.drewN {w w5 W : World} {A : Option Addr} {n c : Nat} {l : List Fr} {f : Fr} (h : SpS w w5 W A n c l f) (k : Nat) : SpS w w5 (W.drewN k) A n c l f := ⟨h.box, h.own, bdrewN h.be k⟩
set_option maxHeartbeats 8000000 in
set_option maxRecDepth 100000 in
theorem walk (l : List Fr) (A : Option Addr) (n cap : Nat) (i z : Int) (w : World) (hl : FrSl w w.heap.size A l) (h63 : n ≤ maxLen) (hw : FrsWf l) (hn : Hid (n = l.length)) (hnc : n ≤ cap) (hz : 0 ≤ z ∧ z ≤ 255) :
    Calls Try.prog 11 #[.slice A n cap, .int .i64 i, .int .u8 z] w fun e w' => e = .returned (.bool true) ∧ Below w.heap.size w w' := by
  obtain ⟨i0, hi, hz0, hz1, hz2⟩ := info_parts frInfo
  have T0 : Hid (TW w w A l) := ⟨hl, Below.refl _ _⟩
  clear hl
  cases hg : greatFrom 0 0 l with
  | true =>
    go_enter Try.func11, Try.ntmps11; go_wp2_with fail; refine (awake20_any _).mono ?_; rintro e w1 ⟨rfl, hb1⟩; have T1 := Lib.hid (T0.out.ext hb1); clear hb1; go_wp2_with fail; refine (great_v l A n cap w1 _ T1.out.sl hn h63 hw hg).mono ?_; rintro e w2 ⟨rfl, rfl⟩
    go_wp2
    go_ret
    exact ⟨rfl, T1.out.be⟩
  | false =>
    have hn200 : n ≤ 200 := by rw [hn.out]; exact great_le hg
    by_cases hc : chk l = 0
    · have HT := Lib.hid (And.intro hc (tree_of hc))
      have hn1 : 1 ≤ n := by rw [hn.out]; exact HT.out.2.ne
      obtain ⟨v, hv, hvn⟩ := wrapmod i n hn1
      have f1 : IntKind.u64.wrap (n : Int) = (n : Int) := IntWalk.u64_in _ (by omega)
      have f2 : IntKind.i64.wrap (v : Int) = (v : Int) := IntWalk.i64_in _ (by omega)
      have g2 : ((n : Int) == 0) = false := by simp; omega
      have g4 : ¬ (n : Int) = 0 := by omega
      have g5 : ¬ n = 0 := by omega
      have hvl : v < l.length := by rw [← hn.out]; exact hvn
      have a1 : Hid (([] : List Fr).length + l.length ≤ maxLen) := by rw [Hid, ← hn.out]; simp [maxLen]; omega
      have a2 : Hid ((([] : List Fr).length + l.length) * 72 ≤ 140737488355328) := by rw [Hid, ← hn.out]; simp; omega
      clear hc
      go_enter Try.func11, Try.ntmps11; go_wp2_with fail; refine (awake20_any _).mono ?_; rintro e w1 ⟨rfl, hb1⟩; have T1 := Lib.hid (T0.out.ext hb1); clear hb1; go_wp2_with fail; refine (great_v l A n cap w1 _ T1.out.sl hn h63 hw hg).mono ?_; rintro e w2 ⟨rfl, rfl⟩
      go_wp2_with fail
      refine (chk_v l A n cap w1 0 T1.out.sl hw hn HT.out.1).mono ?_; rintro e w3 ⟨rfl, hb3⟩
      have T3 := Lib.hid (T1.out.ext hb3)
      clear hb3 hg
      go_upto_region 7 with (at_builtin; refine wpList_append_a _ rfl _ _ _ rfl 65 i0 _ 8 72 Try.underlying60 hi hz0 hz1 hz2 rfl (by decide) Fr.cells_len Fr.cells_one _ ([] : List Fr) (by rfl) (OwnA.fresh0 w3 65 8 Fr.cells) _ A l n cap (by rfl) hn.out (T3.out.sl.ext (below_1 w3 _)) a1.out a2.out ?_; intro v' w5 hown' hchg hat; obtain ⟨A5, n5, c5, rfl, hn5, hle5, hmx5, hnil5⟩ := hown'.form; have HO := Lib.hid (And.intro hown' (And.intro hchg hat)); clear hown' hchg hat)
      have hO1 : Hid (OwnA w5 65 8 Fr.cells (.slice A5 n5 c5) l ∧ Below w3.heap.size w3 w5 ∧ (∀ k, (Value.slice A5 n5 c5).ownBlock = some k → w3.heap.size ≤ k)) := by
        refine ⟨HO.out.1, (below_1 w3 (.cells #[] 65)).trans (HO.out.2.1.below (by simp) fun i hi hs => ?_), fun k hk => ?_⟩
        · simp [Value.ownBlock] at hs; omega
        · rcases HO.out.2.2 with h | h
          · rw [h] at hk; simp [Value.ownBlock] at hk; omega
          · rw [h] at hk; injection hk with hk; rw [World.size_alloc] at hk; omega
      have hn5' : n5 = n := by rw [hn.out, hn5.out]; rfl
      subst hn5'
      clear HO hn5
      have xv := List.getElem?_eq_getElem hvl
      obtain ⟨g, off, rfl⟩ : ∃ g off, A5 = some ⟨g, off, none⟩ := Sl.some_of (hO1.out.1.sl Fr.cells_len) (by intro h; rw [h] at hvl; simp at hvl)
      obtain ⟨g2, off2, hA2, hgw, hcell⟩ := (hO1.out.1.sl Fr.cells_len) (by intro h; rw [h] at hvl; simp at hvl)
      obtain ⟨rfl, rfl⟩ : g = g2 ∧ off = off2 := by injection hA2 with h; injection h with h1 h2; exact ⟨h1, h2⟩
      have hg3 : w3.heap.size ≤ g := hO1.out.2.2 g rfl
      have c0 := hcell v _ xv 0 _ rfl
      have c1 := hcell v _ xv 1 _ rfl
      have c2' := hcell v _ xv 2 _ rfl
      have c3 := hcell v _ xv 3 _ rfl
      have c4 := hcell v _ xv 4 _ rfl
      have c5' := hcell v _ xv 5 _ rfl
      have c6 := hcell v _ xv 6 _ rfl
      have c7 := hcell v _ xv 7 _ rfl
      simp only [Nat.add_zero] at c0
      have hmay := (chk_may HT.out.1).2.2 _ (List.mem_of_getElem? xv)
      have HC := Lib.hid (fun j x (hx : l[j]? = some x) q y (hy : x.cells[q]? = some y) => hcell j x hx q y hy)
      have HW := Lib.hid (hw _ (List.mem_of_getElem? xv))
      have HM := Lib.hid (may_all hmay)
      have HX := Lib.hid xv
      have b1 : (0 : Int) ≤ (v : Int) := Int.natCast_nonneg _
      have b2 : (v : Int) < (n5 : Int) := by omega
      clear hcell hA2 xv hmay
      generalize l[v] = f at *
      have hgb : g ≠ w5.heap.size := by omega
      go_upto_block 0 with fail
      clear c0 c1 c2' c3 c4 c5' c6 c7 f1 g2 g4 g5 hv f2
      have hB0 : Hid (SpS w w5 (w5.alloc (.cells #[.int .i64 f.node, .int .i64 f.part, .int .i64 f.depth, .int .i64 f.x, .int .i64 f.y, .int .i64 f.w, .int .i64 f.h, .string f.text] 65)) (some ⟨g, off, none⟩) n5 c5 l f) :=
        ⟨Blk.new _ _ _, hO1.out.1.alloc _, (ext_under T3.out.be (Nat.le_refl _) hO1.out.2.1).alloc (ext_under T3.out.be (Nat.le_refl _) hO1.out.2.1).size _⟩
      have cA : (w5.alloc (.cells #[.int .i64 f.node, .int .i64 f.part, .int .i64 f.depth, .int .i64 f.x, .int .i64 f.y, .int .i64 f.w, .int .i64 f.h, .string f.text] 65)).heap.size = w5.heap.size + 1 := World.size_alloc _ _
      generalize hW1 : w5.alloc (.cells #[.int .i64 f.node, .int .i64 f.part, .int .i64 f.depth, .int .i64 f.x, .int .i64 f.y, .int .i64 f.w, .int .i64 f.h, .string f.text] 65) = W1 at *
      clear hW1 cA
      have hgs : g < w5.heap.size := OwnA.lt hO1.out.1 rfl
      have k0 := hB0.out.box.cell 0
      have k1 := hB0.out.box.cell 1
      have k2 := hB0.out.box.cell 2
      have k3 := hB0.out.box.cell 3
      have k6 := hB0.out.box.cell 6
      have k7 := hB0.out.box.cell 7
      have m0 := hB0.out.box.free 0
      have m1 := hB0.out.box.free 1
      have m2 := hB0.out.box.free 2
      have m3 := hB0.out.box.free 3
      have m6 := hB0.out.box.free 6
      have m7 := hB0.out.box.free 7
      simp only [List.getElem?_toArray, List.getElem?_cons_zero, List.getElem?_cons_succ] at k0 k1 k2 k3 k6 k7
      have hset : Hid (∀ (W : World) (f1 : Fr) (i : Nat) (u : Value) (f' : Fr), SpS w w5 W (some ⟨g, off, none⟩) n5 c5 l f1 → (#[.int .i64 f1.node, .int .i64 f1.part, .int .i64 f1.depth, .int .i64 f1.x, .int .i64 f1.y, .int .i64 f1.w, .int .i64 f1.h, .string f1.text] : Array Value).setIfInBounds i u = #[.int .i64 f'.node, .int .i64 f'.part, .int .i64 f'.depth, .int .i64 f'.x, .int .i64 f'.y, .int .i64 f'.w, .int .i64 f'.h, .string f'.text] → SpS w w5 (W.setCell ⟨w5.heap.size, i, none⟩ u) (some ⟨g, off, none⟩) n5 c5 l f') := fun W f1 i u f' h hf =>
        h.set i u (Nat.le_trans T3.out.be.size hO1.out.2.1.size) (fun k hk => by simp [Value.ownBlock] at hk; omega) hf
      go_cut [8] (fun s8 wx => s8 = .pointer (some ⟨w5.heap.size, 0, none⟩) ∧ ∃ f' : Fr, Hid (SpS w w5 wx (some ⟨g, off, none⟩) n5 c5 l f' ∧ chk (l.set v f') = 200 ∧ f'.Wf))
      case first =>
        have hcm1 : (Lit.int .i64 (-1)).wf = true := by decide
        have hcp : (Lit.int .i64 1099511627777).wf = true := by decide
        have hcn : (Lit.int .i64 (-1099511627777)).wf = true := by decide
        have hc0 : (Lit.int .i64 0).wf = true := by decide
        obtain hq | hq | hq | hq | hq | hq | hq | hq : z % 8 = 0 ∨ z % 8 = 1 ∨ z % 8 = 2 ∨ z % 8 = 3 ∨ z % 8 = 4 ∨ z % 8 = 5 ∨ z % 8 = 6 ∨ z % 8 = 7 := by omega
        · clear hz
          go_wp2_with fail
          go_meet
          exact ⟨rfl, _, hset.out _ _ 0 (.int .i64 (-1)) ⟨-1, f.part, f.depth, f.x, f.y, f.w, f.h, f.text⟩ hB0.out rfl, set_bad HT.out.1 hvl (.inl (by simp [mayB, rng, out])), ⟨hcm1, HW.out.part, HW.out.depth, HW.out.x, HW.out.y, HW.out.w, HW.out.h, HW.out.text⟩⟩
        · clear hz
          go_wp2_with fail
          go_meet
          exact ⟨rfl, _, hset.out _ _ 1 (.int .i64 1099511627777) ⟨f.node, 1099511627777, f.depth, f.x, f.y, f.w, f.h, f.text⟩ hB0.out rfl, set_bad HT.out.1 hvl (.inl (by simp [mayB, rng, out])), ⟨HW.out.node, hcp, HW.out.depth, HW.out.x, HW.out.y, HW.out.w, HW.out.h, HW.out.text⟩⟩
        · clear hz
          have hz0' := HM.out.2.2.1
          have e1 : IntKind.i64.wrap (f.depth + 2) = f.depth + 2 := IntWalk.i64_in _ (by omega)
          have e1w : (Lit.int .i64 (f.depth + 2)).wf = true := lit_i64 (by omega) (by omega)
          by_cases hv0 : v = 0
          · have e4 : decide ((0 : Int) < (v : Int)) = false := decide_eq_false (by omega)
            have e5 : decide (0 < v) = false := decide_eq_false (by omega)
            have hbad := Lib.hid (set_bad HT.out.1 hvl (f := ⟨f.node, f.part, f.depth + 2, f.x, f.y, f.w, f.h, f.text⟩) (.inr (.inr ⟨hv0, by simp only; omega⟩)))
            clear hv0 hz0'
            go_upto_region 18 with fail
            go_quiet (fail)
            go_wp2_with fail
            go_meet
            exact ⟨rfl, ⟨f.node, f.part, f.depth + 2, f.x, f.y, f.w, f.h, f.text⟩, (hset.out _ _ 2 (.int .i64 (f.depth + 2)) ⟨f.node, f.part, f.depth + 2, f.x, f.y, f.w, f.h, f.text⟩ hB0.out rfl).drewN _, hbad.out, ⟨HW.out.node, HW.out.part, e1w, HW.out.x, HW.out.y, HW.out.w, HW.out.h, HW.out.text⟩⟩
          · obtain ⟨u, rfl⟩ : ∃ u, v = u + 1 := ⟨v - 1, by omega⟩
            have hul : u < l.length := by omega
            have xu := List.getElem?_eq_getElem hul
            have d2 := (hB0.out.own.sl Fr.cells_len).at_ xu
            obtain ⟨g2, off2, hA2, _, hcu⟩ := d2
            obtain ⟨rfl, rfl⟩ : g = g2 ∧ off = off2 := by injection hA2 with h; injection h with h1 h2; exact ⟨h1, h2⟩
            have d0 := hcu 0 _ rfl
            have d1 := hcu 1 _ rfl
            have d2 := hcu 2 _ rfl
            simp only [Nat.add_zero] at d0
            have hmu := (may_all ((chk_may HT.out.1).2.2 _ (List.mem_of_getElem? xu)))
            have hwu := Lib.hid (hw _ (List.mem_of_getElem? xu))
            have HU := Lib.hid xu
            clear xu hA2 hcu
            generalize l[u] = fu at *
            have e2 : IntKind.i64.wrap (((u + 1 : Nat) : Int) - 1) = (u : Int) := by rw [IntWalk.i64_in _ (by omega)]; omega
            have e4 : decide ((0 : Int) < ((u + 1 : Nat) : Int)) = true := decide_eq_true (by omega)
            have e6 : (((u + 1 : Nat) : Int) == 0) = false := by simp; omega
            have b3 : (0 : Int) ≤ (u : Int) := Int.natCast_nonneg _
            have b4 : (u : Int) < (n5 : Int) := by omega
            have e3 : IntKind.i64.wrap (fu.depth + 1) = fu.depth + 1 := IntWalk.i64_in _ (by omega)
            by_cases hle : f.depth + 2 ≤ fu.depth + 1
            · have e5 : decide (f.depth + 2 ≤ fu.depth + 1) = true := decide_eq_true hle
              have hbe := Lib.hid (hset.out _ _ 2 (.int .i64 (f.depth + 2)) ⟨f.node, f.part, f.depth + 2, f.x, f.y, f.w, f.h, f.text⟩ hB0.out rfl)
              clear hz0' hle hmu
              go_upto_region 18 with fail
              go_quiet (fail)
              go_wp2
              go_ret
              exact ⟨rfl, bdrewN hbe.out.be _⟩
            · have e5 : decide (f.depth + 2 ≤ fu.depth + 1) = false := decide_eq_false hle
              have hbad := Lib.hid (set_bad HT.out.1 hvl (f := ⟨f.node, f.part, f.depth + 2, f.x, f.y, f.w, f.h, f.text⟩) (.inr (.inl ⟨by omega, fu, HU.out, .inr (.inl (by simp only; omega))⟩)))
              clear hz0' hle hmu
              go_upto_region 18 with fail
              go_quiet (fail)
              go_wp2_with fail
              go_meet
              exact ⟨rfl, ⟨f.node, f.part, f.depth + 2, f.x, f.y, f.w, f.h, f.text⟩, (hset.out _ _ 2 (.int .i64 (f.depth + 2)) ⟨f.node, f.part, f.depth + 2, f.x, f.y, f.w, f.h, f.text⟩ hB0.out rfl).drewN _, hbad.out, ⟨HW.out.node, HW.out.part, e1w, HW.out.x, HW.out.y, HW.out.w, HW.out.h, HW.out.text⟩⟩
        · clear hz
          go_wp2_with fail
          go_meet
          exact ⟨rfl, _, hset.out _ _ 3 (.int .i64 (-1099511627777)) ⟨f.node, f.part, f.depth, -1099511627777, f.y, f.w, f.h, f.text⟩ hB0.out rfl, set_bad HT.out.1 hvl (.inl (by simp [mayB, rng, out])), ⟨HW.out.node, HW.out.part, HW.out.depth, hcn, HW.out.y, HW.out.w, HW.out.h, HW.out.text⟩⟩
        · clear hz
          go_wp2_with fail
          go_meet
          exact ⟨rfl, _, hset.out _ _ 6 (.int .i64 1099511627777) ⟨f.node, f.part, f.depth, f.x, f.y, f.w, 1099511627777, f.text⟩ hB0.out rfl, set_bad HT.out.1 hvl (.inl (by simp [mayB, rng, out])), ⟨HW.out.node, HW.out.part, HW.out.depth, HW.out.x, HW.out.y, HW.out.w, hcp, HW.out.text⟩⟩
        · clear hz
          by_cases hv0 : v = 0
          · have e6 : ((v : Int) == 0) = true := by rw [hv0]; rfl
            have e7 : (v == 0) = true := by rw [hv0]; rfl
            clear hv0
            go_wp2
            go_ret
            exact ⟨rfl, hB0.out.be⟩
          · obtain ⟨u, rfl⟩ : ∃ u, v = u + 1 := ⟨v - 1, by omega⟩
            have hul : u < l.length := by omega
            have xu := List.getElem?_eq_getElem hul
            have d2 := (hB0.out.own.sl Fr.cells_len).at_ xu
            obtain ⟨g2, off2, hA2, _, hcu⟩ := d2
            obtain ⟨rfl, rfl⟩ : g = g2 ∧ off = off2 := by injection hA2 with h; injection h with h1 h2; exact ⟨h1, h2⟩
            have d0 := hcu 0 _ rfl
            have d1 := hcu 1 _ rfl
            have d2 := hcu 2 _ rfl
            simp only [Nat.add_zero] at d0
            have hmu := (may_all ((chk_may HT.out.1).2.2 _ (List.mem_of_getElem? xu)))
            have hwu := Lib.hid (hw _ (List.mem_of_getElem? xu))
            have HU := Lib.hid xu
            clear xu hA2 hcu
            generalize l[u] = fu at *
            have e2 : IntKind.i64.wrap (((u + 1 : Nat) : Int) - 1) = (u : Int) := by rw [IntWalk.i64_in _ (by omega)]; omega
            have e4 : decide ((0 : Int) < ((u + 1 : Nat) : Int)) = true := decide_eq_true (by omega)
            have e6 : (((u + 1 : Nat) : Int) == 0) = false := by simp; omega
            have b3 : (0 : Int) ≤ (u : Int) := Int.natCast_nonneg _
            have b4 : (u : Int) < (n5 : Int) := by omega
            have hbad := Lib.hid (set_bad HT.out.1 hvl (f := ⟨fu.node, fu.part, f.depth, f.x, f.y, f.w, f.h, f.text⟩) (.inr (.inl ⟨by omega, fu, HU.out, .inr (.inr rfl)⟩)))
            clear hmu
            go_wp2_with fail
            go_meet
            exact ⟨rfl, ⟨fu.node, fu.part, f.depth, f.x, f.y, f.w, f.h, f.text⟩, hset.out _ _ 1 (.int .i64 fu.part) ⟨fu.node, fu.part, f.depth, f.x, f.y, f.w, f.h, f.text⟩ (hset.out _ _ 0 (.int .i64 fu.node) ⟨fu.node, f.part, f.depth, f.x, f.y, f.w, f.h, f.text⟩ hB0.out rfl) rfl, hbad.out, ⟨hwu.out.node, hwu.out.part, HW.out.depth, HW.out.x, HW.out.y, HW.out.w, HW.out.h, HW.out.text⟩⟩
        · clear hz
          have t0 : (z % 8 == 0) = false := by rw [hq]; rfl
          have t1 : (z % 8 == 1) = false := by rw [hq]; rfl
          have t2 : (z % 8 == 2) = false := by rw [hq]; rfl
          have t3 : (z % 8 == 3) = false := by rw [hq]; rfl
          have t4 : (z % 8 == 4) = false := by rw [hq]; rfl
          have t5 : (z % 8 == 5) = false := by rw [hq]; rfl
          have t6 : (z % 8 == 6) = true := by rw [hq]; rfl
          clear hq
          obtain ⟨T, hT0⟩ : ∃ T : ByteArray, T = ⟨(List.replicate 257 0).toArray⟩ := ⟨_, rfl⟩
          have hT := Lib.hid hT0
          have hTs : Hid (T.size = 257) := by rw [Hid, hT0]; show (List.replicate 257 (0 : UInt8)).toArray.size = 257; simp
          clear hT0
          obtain ⟨b0, hbi, hb0, hb1', hb2⟩ := info_parts byInfo
          have hbad := Lib.hid (set_bad HT.out.1 hvl (f := ⟨f.node, f.part, f.depth, f.x, f.y, f.w, f.h, T⟩) (.inl (by have := hTs.out; simp [mayB, this])))
          go_wp2_with (at_make; refine wpList_make_full _ rfl _ _ 25 rfl W1.heap.size 5 b0 _ 1 Try.underlying25 hbi hb0 hb1' _ _ _ _ 257 rfl rfl (by rfl) (by rfl) (by rw [hb2]; decide) (by decide) (Nat.le_refl _) ?_; intro w6 hmk hgr; have HB6 := Lib.hid (hB0.out.ext ((Below.refl _ _).grown hgr (Nat.le_refl _) (by simp))); have hcw := conv_str (List.replicate 257 0) (some ⟨W1.heap.size, 0, none⟩) 257 257 _ w6 (made_bytes hmk) (by simp); rw [← hT.out] at hcw; have y7 := HB6.out.box.cell 7; have x7 := HB6.out.box.free 7; simp only [List.getElem?_toArray, List.getElem?_cons_zero, List.getElem?_cons_succ] at y7; clear hmk hgr)
          go_meet
          exact ⟨rfl, ⟨f.node, f.part, f.depth, f.x, f.y, f.w, f.h, T⟩, hset.out _ _ 7 (.string T) ⟨f.node, f.part, f.depth, f.x, f.y, f.w, f.h, T⟩ HB6.out rfl, hbad.out, ⟨HW.out.node, HW.out.part, HW.out.depth, HW.out.x, HW.out.y, HW.out.w, HW.out.h, by have := hTs.out; simp only; omega⟩⟩
        · clear hz
          by_cases hv0 : v = 0
          · have e6 : ((v : Int) == 0) = true := by rw [hv0]; rfl
            have e7 : (v == 0) = true := by rw [hv0]; rfl
            clear hv0
            go_wp2
            go_ret
            exact ⟨rfl, hB0.out.be⟩
          · obtain ⟨u, rfl⟩ : ∃ u, v = u + 1 := ⟨v - 1, by omega⟩
            have hul : u < l.length := by omega
            have xu := List.getElem?_eq_getElem hul
            have d2 := (hB0.out.own.sl Fr.cells_len).at_ xu
            obtain ⟨g2, off2, hA2, _, hcu⟩ := d2
            obtain ⟨rfl, rfl⟩ : g = g2 ∧ off = off2 := by injection hA2 with h; injection h with h1 h2; exact ⟨h1, h2⟩
            have d0 := hcu 0 _ rfl
            have d1 := hcu 1 _ rfl
            have d2 := hcu 2 _ rfl
            simp only [Nat.add_zero] at d0
            have hmu := (may_all ((chk_may HT.out.1).2.2 _ (List.mem_of_getElem? xu)))
            have hwu := Lib.hid (hw _ (List.mem_of_getElem? xu))
            have HU := Lib.hid xu
            clear xu hA2 hcu
            generalize l[u] = fu at *
            have e2 : IntKind.i64.wrap (((u + 1 : Nat) : Int) - 1) = (u : Int) := by rw [IntWalk.i64_in _ (by omega)]; omega
            have e4 : decide ((0 : Int) < ((u + 1 : Nat) : Int)) = true := decide_eq_true (by omega)
            have e6 : (((u + 1 : Nat) : Int) == 0) = false := by simp; omega
            have b3 : (0 : Int) ≤ (u : Int) := Int.natCast_nonneg _
            have b4 : (u : Int) < (n5 : Int) := by omega
            have hbad := Lib.hid (set_bad HT.out.1 hvl (f := ⟨f.node, f.part, 0, f.x, f.y, f.w, f.h, f.text⟩) (.inr (.inl ⟨by omega, fu, HU.out, .inl (by simp only; omega)⟩)))
            clear hmu
            go_wp2_with fail
            go_meet
            exact ⟨rfl, ⟨f.node, f.part, 0, f.x, f.y, f.w, f.h, f.text⟩, hset.out _ _ 2 (.int .i64 0) ⟨f.node, f.part, 0, f.x, f.y, f.w, f.h, f.text⟩ hB0.out rfl, hbad.out, ⟨HW.out.node, HW.out.part, hc0, HW.out.x, HW.out.y, HW.out.w, HW.out.h, HW.out.text⟩⟩
      case rest =>
        obtain ⟨rfl, f', HS⟩ := hcut
        have k0 := HS.out.1.box.cell 0
        have k1 := HS.out.1.box.cell 1
        have k2 := HS.out.1.box.cell 2
        have k3 := HS.out.1.box.cell 3
        have k4 := HS.out.1.box.cell 4
        have k5 := HS.out.1.box.cell 5
        have k6 := HS.out.1.box.cell 6
        have k7 := HS.out.1.box.cell 7
        simp only [List.getElem?_toArray, List.getElem?_cons_zero, List.getElem?_cons_succ] at k0 k1 k2 k3 k4 k5 k6 k7
        have HL9 : Hid (chk (l.set v f') = 200 ∧ FrsWf (l.set v f') ∧ n5 = (l.set v f').length) := ⟨HS.out.2.1, set_wf hw HS.out.2.2, by rw [List.length_set]; exact hn.out⟩
        have h53 : w3.heap.size ≤ g := hg3
        go_wp2_with (refine wpList_store_fr rfl (.tmp 97) (.tmp 96) rfl f' rfl rfl HS.out.1.own HX.out ?_; intro w9 hown9 hchg9; have HB9 : Hid (OwnA w9 65 8 Fr.cells (.slice (some ⟨g, off, none⟩) n5 c5) (l.set v f') ∧ Below w.heap.size w w9) := (by exact ⟨hown9, HS.out.1.be.trans (hchg9.below HS.out.1.be.size (fun i hi hs => by have := T3.out.be.size; omega))⟩); clear hown9 hchg9)
        generalize l.set v f' = L at *
        refine (print_v L _ n5 c5 w9 ([], 200) (HB9.out.1.sl Fr.cells_len) HL9.out.2.1 HL9.out.2.2 (by omega) (print_bad HL9.out.1)).mono ?_; rintro e wa ⟨hba, D, dn, dc, rfl, ho, hf⟩
        obtain rfl : dn = 0 := ho.len
        have Ta := Lib.hid (And.intro ((HB9.out.1.sl Fr.cells_len).ext hba) (ext_under HB9.out.2 (Nat.le_refl _) hba))
        clear hba ho hf HB9 k0 k1 k2 k3 k4 k5 k6 k7
        go_wp2_with fail
        refine (chk_v L _ n5 c5 wa 200 Ta.out.1 HL9.out.2.1 HL9.out.2.2 HL9.out.1).mono ?_; rintro e wb ⟨rfl, hb⟩
        have Tb := Lib.hid (And.intro (Ta.out.1.ext hb) (ext_under Ta.out.2 (Nat.le_refl _) hb))
        clear hb
        go_wp2_with fail
        refine (par_v L _ n5 c5 (v : Int) wb (-1) Tb.out.1 HL9.out.2.1 HL9.out.2.2 (par_bad HL9.out.1)).mono ?_; rintro e wc ⟨rfl, hb⟩
        have Tc := Lib.hid (And.intro (Tb.out.1.ext hb) (ext_under Tb.out.2 (Nat.le_refl _) hb))
        clear hb
        go_wp2_with fail
        refine (end_v L _ n5 c5 (v : Int) wc 0 Tc.out.1 HL9.out.2.1 HL9.out.2.2 h63 (end_bad HL9.out.1)).mono ?_; rintro e wd ⟨rfl, hb⟩
        go_wp2
        go_ret
        exact ⟨rfl, ext_under Tc.out.2 (Nat.le_refl _) hb⟩
    · have hne : (chk l != 0) = true := by simpa using hc
      have hck := Lib.hid fun W (h : TW w W A l) => check_any l A n cap W h.sl hw hn
      generalize chk l = cz at *
      go_enter Try.func11, Try.ntmps11; go_wp2_with fail; refine (awake20_any _).mono ?_; rintro e w1 ⟨rfl, hb1⟩; have T1 := Lib.hid (T0.out.ext hb1); clear hb1; go_wp2_with fail; refine (great_v l A n cap w1 _ T1.out.sl hn h63 hw hg).mono ?_; rintro e w2 ⟨rfl, rfl⟩
      go_wp2_with fail
      refine (hck.out w1 T1.out).mono ?_; rintro e w3 ⟨rfl, hb3⟩
      go_wp2
      go_ret
      exact ⟨rfl, ext_under T1.out.be (Nat.le_refl _) hb3⟩
theorem u8_bounds {z : Int} (h : (Lit.int .u8 z).wf = true) : 0 ≤ z ∧ z ≤ 255 := by simpa [Lit.wf, IntKind.min, IntKind.max, IntKind.signed, IntKind.bits] using h
set_option maxRecDepth 100000 in
theorem lifted (os : Os) (started : os.Started) (H : Type) (enc : TypeId × Value → H) :
    ReturnsInHanded {} Try.checked os 11 .any (Rows.fragSpoiltSpec.pre6 enc Try.prog Try.f11 Rows.fragSpoiltRow.domain false) (Rows.fragSpoiltSpec.post enc Try.prog Try.f11 false true false false) := by
  refine returnsInHanded_of_change_sized (C := Try.checked) own started (by kernel_rfl) Try.func11
    (ChangeSpec.witness6 (enc := enc) (C := Try.checked) false ⟨#[], #[.slice none 0 0, .int .i64 0, .int .u8 0], []⟩ 8 (by kernel_rfl) (by kernel_rfl) (by kernel_rfl) (by kernel_rfl)) ?_
  intro W base args ds gs before hval0 hW hcnd hsz0 _
  have hval : ∀ (j : Nat) t v, Try.f11.params[j]? = some t → args[j]? = some v → Value.okWide Try.prog W .any base t v := hval0
  have hW' := hW
  obtain ⟨p, q, hA0, hV, rfl, hfz, hnd⟩ := hW
  have hA : DataW.TrodAll enc Try.prog W 0 (fun _ => true) true Try.f11.params.toList args.toList ds p := hA0
  have hsz : (DataW.weightsEach Try.prog (Try.f11.params.toList ++ []) (ds ++ gs)).all (· ≤ reachBytes) = true := hsz0
  rw [Try.params11] at hA hval hsz
  have hAll := hA
  obtain ⟨v0, vs0, d0, ds0, p0, q0, hargs, rfl, rfl, h0, r0⟩ := trodAll_cons hA
  obtain ⟨v1, vs1, d1, ds1, p1, q1, rfl, rfl, rfl, h1, r1⟩ := trodAll_cons r0
  obtain ⟨v2, vs2, d2, ds2, p2, q2, rfl, rfl, rfl, h2, r2⟩ := trodAll_cons r1
  obtain ⟨rfl, rfl, rfl⟩ := trodAll_nil r2
  obtain rfl : args = #[v0, v1, v2] := by cases args; simp_all
  obtain ⟨rfl, rfl⟩ := trodVars_none hV
  obtain ⟨l_A, l, l_cap, rfl, l_sl, l_ok, l_le, l_max, l_reach, l_nil⟩ := open_sl Try.underlying60 (c := 8) (by kernel_rfl) (by decide) opens_fr (hval 0 60 v0 rfl rfl) h0 (light_of hsz (j := 0) rfl rfl)
  obtain ⟨i, rfl, _, _, i_wf⟩ := open_int Try.underlying3 (hval 1 3 v1 rfl rfl) h1
  obtain ⟨how, rfl, _, _, how_wf⟩ := open_int Try.underlying5 (hval 2 5 v2 rfl rfl) h2
  refine (walk l l_A l.length l_cap i how W l_sl (Nat.le_trans l_le l_max) l_ok rfl l_le (u8_bounds how_wf)).mono fun e W' ⟨he, bel⟩ => ?_
  subst he
  exact ⟨_, rfl, _, _, _, [], _, [], hW', trodAll_mk1 (shut_bool Try.underlying4 _), keep_args laidOut bel (by kernel_rfl) hAll, rfl, bel.frame _, fun h => by cases h⟩

theorem over : Rows.fragSpoiltRow.holds Try.pinned (OpenSpec.ofChange Rows.fragSpoiltSpec) :=
  OpenClaim.holds_of_wide 11 Try.f11 rfl rfl rfl rfl rfl rfl rfl ⟨rfl, rfl, rfl, rfl, rfl⟩ rfl rfl rfl rfl rfl (by kernel_rfl) Try.func11 (by kernel_rfl)
    (of_decide_eq_true (by kernel_rfl)) (by unfold Func.isWrapper; first | (rw [if_pos (by decide +kernel)]; kernel_rfl) | (rw [if_neg (by decide +kernel)]; exact ⟨rfl, rfl⟩))
    (fun os started H enc _ => lifted os started H enc)

theorem proved : Rows.FragSpoiltSaid := over
#print axioms proved
end Go.Proofs.Ytoneechcclndaaa.lawSpoilt
