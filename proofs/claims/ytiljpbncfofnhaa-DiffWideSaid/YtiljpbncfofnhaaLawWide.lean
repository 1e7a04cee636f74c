/- DiffWide: of wide trees, whose fragments stand otherwise, the difference is what the document says, too: whatever the numbers, the law returns true. -/
import Derived.Test.YtiljpbncfofnhaaDfI
import Derived.Test.YtiljpbncfofnhaaDfL
import Derived.Test.YtiljpbncfofnhaaDfX
import Derived.Test.YtiljpbncfofnhaaFrS
import Derived.Test.YtiljpbncfofnhaaOpen
import Derived.Test.YtiljpbncfofnhaaLift
import Derived.Outline
import Derived.BigQuiet
import Derived.Deep.QuietTactic
import Derived.Deep.RegionWith
import Derived.Deep.RegionHeld3
import Derived.Deep.DrawnRows
import Derived.Deep.LoopGhost
import Derived.Deep.DeepCutAuto
import Derived.Laws.EntriesVeiled
import Derived.BigQuiet
namespace Go.Proofs.Ytiljpbncfofnhaa.lawWide
open Go.RowKit Go.ChangeShapes Go.WideShapes Go.ChangeAt
set_option linter.unusedVariables false
set_option linter.unusedSimpArgs false
attribute [local go_sem ↓] Go.wp_at_zero Go.wp_at_succ
open FragA FragB MayA Tree FCheck EdB EdC EdF Dif FForm
/-- both rows -/
structure Wd (w wr : World) (gA gB n : Nat) (la lb : List Fr) : Prop where
  a : OwnA wr 67 8 Fr.cells (.slice (some ⟨gA, 0, none⟩) n n) la
  b : OwnA wr 67 8 Fr.cells (.slice (some ⟨gB, 0, none⟩) n n) lb
  ne : gA ≠ gB
  fa : w.heap.size ≤ gA
  fb : w.heap.size ≤ gB
  be : Below w.heap.size w wr
theorem Wd.putA {w wr w' : World} {gA gB n : Nat} {la lb la' : List Fr} (h : Wd w wr gA gB n la lb) (ho : OwnA w' 67 8 Fr.cells (.slice (some ⟨gA, 0, none⟩) n n) la') (hc : Chg (fun i => i = gA) wr w') : Wd w w' gA gB n la' lb :=
  ⟨ho, h.b.chg hc (fun g hg e => by simp [Value.ownBlock] at hg; exact h.ne (by omega)), h.ne, h.fa, h.fb, h.be.trans (hc.below h.be.size (fun i hi e => by have := h.fa; omega))⟩
theorem Wd.putB {w wr w' : World} {gA gB n : Nat} {la lb lb' : List Fr} (h : Wd w wr gA gB n la lb) (ho : OwnA w' 67 8 Fr.cells (.slice (some ⟨gB, 0, none⟩) n n) lb') (hc : Chg (fun i => i = gB) wr w') : Wd w w' gA gB n la lb' :=
  ⟨h.a.chg hc (fun g hg e => by simp [Value.ownBlock] at hg; exact h.ne (by omega)), ho, h.ne, h.fa, h.fb, h.be.trans (hc.below h.be.size (fun i hi e => by have := h.fb; omega))⟩
theorem Wd.ext {w wr w' : World} {gA gB n : Nat} {la lb : List Fr} (h : Wd w wr gA gB n la lb) (hb : Below wr.heap.size wr w') : Wd w w' gA gB n la lb := ⟨h.a.ext hb, h.b.ext hb, h.ne, h.fa, h.fb, ext_under h.be (Nat.le_refl _) hb⟩
theorem spoil_x {w wr : World} {gA gB n k : Nat} {la lb : List Fr} {f : Fr} {x : Int} (h : Wd w wr gA gB n la lb) (hf : lb[k]? = some f) : wr.cell? ⟨gB, k * 8 + 3, none⟩ = some (.int .i64 f.x) ∧ wr.frozen? ⟨gB, k * 8 + 3, none⟩ = false ∧
    Hid (Wd w (wr.setCell ⟨gB, k * 8 + 3, none⟩ (.int .i64 x)) gA gB n la (lb.set k ⟨f.node, f.part, f.depth, x, f.y, f.w, f.h, f.text⟩)) := by
  obtain ⟨g3, off3, hA3, _, _, _, _, y3, _⟩ := FrSl.at_ (h.b.sl Fr.cells_len) hf
  injection hA3 with hA3
  injection hA3 with e1 e2 e3
  subst e1
  subst e2
  rw [Nat.zero_add] at y3
  obtain ⟨_, _, cur, _, hh, _⟩ := h.b.row (g := gB) rfl
  have hs := h.b.store Fr.cells_len hf (j := 3) (x' := ⟨f.node, f.part, f.depth, x, f.y, f.w, f.h, f.text⟩) (u := .int .i64 x) (by omega) rfl
  rw [Nat.zero_add] at hs
  exact ⟨y3, frozen_of_row wr gB _ cur _ hh, h.putB hs ((Chg.refl (fun i => i = gB) wr).setCell (p := ⟨gB, _, none⟩) (fun _ => rfl) _)⟩
theorem slw' {α : Type} {c : Nat} {enc : α → List Value} {W1 wr : World} {A : Option Addr} {l : List α} (h : Sl W1 W1.heap.size c enc A l) (hb : Below W1.heap.size W1 wr) : Sl wr wr.heap.size c enc A l := (h.below hb).more hb.size
theorem umod (z : Int) (m : Nat) (hm : 1 ≤ m) : ∃ v : Nat, (IntKind.u64.wrap z).tmod (m : Int) = (v : Int) ∧ v < m := by
  have h : 0 ≤ IntKind.u64.wrap z := by simp [IntKind.wrap, IntKind.bits, IntKind.signed]; omega
  have h1 := Int.tmod_nonneg (m : Int) h
  have h2 := Int.tmod_lt_of_pos (IntKind.u64.wrap z) (show (0 : Int) < (m : Int) by omega)
  exact ⟨((IntKind.u64.wrap z).tmod (m : Int)).toNat, by omega, by omega⟩
set_option maxRecDepth 100000 in
set_option maxHeartbeats 8000000 in
theorem walk (n0 on0 ev0 : Int) (w : World) : Calls Try.prog 7 #[.int .i64 n0, .int .i64 on0, .int .i64 ev0] w fun e w' => e = .returned (.bool true) ∧ Below w.heap.size w w' := by
  obtain ⟨v, hv, hvn⟩ := umod n0 400 (by omega)
  have hv : (IntKind.u64.wrap n0).tmod 400 = (v : Int) := hv
  obtain ⟨n, hn⟩ : ∃ n, 2 + v = n := ⟨_, rfl⟩
  obtain ⟨on, hon, hol⟩ := umod on0 (n - 1) (by omega)
  obtain ⟨ev', hev, hevl⟩ := umod ev0 50 (by omega)
  have hev : (IntKind.u64.wrap ev0).tmod 50 = (ev' : Int) := hev
  obtain ⟨ev, he⟩ : ∃ ev, 1 + ev' = ev := ⟨_, rfl⟩
  have a1 : IntKind.i64.wrap (v : Int) = (v : Int) := IntWalk.i64_in _ (by omega)
  have a2 : IntKind.i64.wrap (2 + (v : Int)) = (n : Int) := by rw [IntWalk.i64_in _ (by omega)]; omega
  have a3 : IntKind.i64.wrap ((n : Int) - 1) = ((n - 1 : Nat) : Int) := by rw [IntWalk.i64_in _ (by omega)]; omega
  have a4 : IntKind.u64.wrap ((n - 1 : Nat) : Int) = ((n - 1 : Nat) : Int) := IntWalk.u64_in _ (by omega)
  have a5 : IntKind.i64.wrap (on : Int) = (on : Int) := IntWalk.i64_in _ (by omega)
  have a6 : IntKind.i64.wrap (ev' : Int) = (ev' : Int) := IntWalk.i64_in _ (by omega)
  have a7 : IntKind.i64.wrap (1 + (ev' : Int)) = (ev : Int) := by rw [IntWalk.i64_in _ (by omega)]; omega
  obtain ⟨m, hm⟩ : ∃ m, n - 1 = m := ⟨_, rfl⟩
  rw [hm] at hon a3 a4
  have g4 : ¬ (m : Int) = 0 := by omega
  have g2 : ((m : Int) == 0) = false := by simp; omega
  go_enter Try.func7, Try.ntmps7
  obtain ⟨j0, hj, hjz, hjz1, hjz2⟩ := info_parts frInfo
  go_wp2_with (first
    | (at_make; refine wpList_make_full _ rfl _ _ 59 rfl w.heap.size 67 j0 _ 8 Try.underlying59 hj hjz hjz1 _ _ _ _ n rfl rfl (by rfl) (by rfl) (by rw [hjz2]; omega) (by unfold maxLen; omega) (Nat.le_refl _) ?_; intro w1 hmk hgr; have M1 := Lib.hid (And.intro (own_made hmk) (Below.grown (Below.refl w.heap.size w) hgr (Nat.le_refl _) (by simp))); clear hmk hgr)
    | (at_make; refine wpList_make_full _ rfl _ _ 59 rfl w1.heap.size 67 j0 _ 8 Try.underlying59 hj hjz hjz1 _ _ _ _ n rfl rfl (by rfl) (by rfl) (by rw [hjz2]; omega) (by unfold maxLen; omega) (Nat.le_refl _) ?_; intro w2 hmk hgr; have M2 := Lib.hid (And.intro (own_made hmk) (Below.grown (Below.refl w1.heap.size w1) hgr (Nat.le_refl _) (by simp))); clear hmk hgr))
  have HS : Hid (Wd w w2 w.heap.size w1.heap.size n (wideA n 1) (wideB n on ev 1)) := by
    have s1 := M1.out.2.size
    have l1 := M1.out.1.lt (g := w.heap.size) rfl
    have eA : wideA n 1 = List.replicate n fr0 := by
      apply List.ext_getElem?
      intro k
      by_cases hk : k < n
      · rw [wideA_at hk, List.getElem?_replicate, if_pos hk]
        congr 1
        split
        · rfl
        · rw [if_neg (by omega)]; rfl
      · rw [List.getElem?_eq_none (by simp [wideA]; omega), List.getElem?_eq_none (by simp; omega)]
    have eB : wideB n on ev 1 = List.replicate n fr0 := by
      apply List.ext_getElem?
      intro k
      by_cases hk : k < n
      · rw [wideB_at hk, List.getElem?_replicate, if_pos hk]
        congr 1
        split
        · rfl
        · rw [if_neg (by unfold wideI; omega)]; rfl
      · rw [List.getElem?_eq_none (by simp [wideB]; omega), List.getElem?_eq_none (by simp; omega)]
    rw [eA, eB]
    exact ⟨M1.out.1.ext M2.out.2, M2.out.1, by omega, Nat.le_refl _, s1, ext_under M1.out.2 (Nat.le_refl _) M2.out.2⟩
  clear M1 M2
  generalize w1.heap.size = gB at *
  generalize hgA : w.heap.size = gA at *
  go_loopg [9] n (fun gk v9 wr => ∃ i : Nat, n ≤ i + gk ∧ 1 ≤ i ∧ i ≤ n ∧ v9 = .int .i64 (i : Int) ∧ Hid (Wd w wr gA gB n (wideA n i) (wideB n on ev i)))
  case atStart => exact ⟨1, by omega, by omega, by omega, rfl, HS⟩
  case round =>
    clear HS
    obtain ⟨i, hgk, hi1, hin, rfl, HS⟩ := hrel
    by_cases hlt : i < n
    · obtain ⟨p1, p2, p3⟩ := wide_pi (on := on) hi1 hlt (by omega)
      have hA : (wideA n i)[i]? = some Fr.z := by rw [wideA_at hlt, if_neg (by omega), if_neg (by omega)]
      obtain ⟨p, hp⟩ : ∃ p, wideP n on i = p := ⟨_, rfl⟩
      have b1 : IntKind.i64.wrap ((i : Int) - 1) = ((i - 1 : Nat) : Int) := by rw [IntWalk.i64_in _ (by omega)]; omega
      have b2 : IntKind.i64.wrap (((i - 1 : Nat) : Int) + (on : Int)) = ((i - 1 : Nat) : Int) + (on : Int) := IntWalk.i64_in _ (by omega)
      obtain ⟨q, hq⟩ : ∃ q, (i - 1 + on) % m = q := ⟨_, rfl⟩
      have hqm : q < m := by rw [← hq]; exact Nat.mod_lt _ (by omega)
      have b3 : (((i - 1 : Nat) : Int) + (on : Int)) % (m : Int) = (q : Int) := by rw [← Int.natCast_add, ← Int.natCast_emod, hq]
      have b4 : 1 + q = p := by rw [← hp, wideP, hm, hq]
      have b5 : IntKind.i64.wrap (1 + (q : Int)) = (p : Int) := by rw [IntWalk.i64_in _ (by omega)]; omega
      have c1 : (0 : Int) ≤ (i : Int) := Int.natCast_nonneg _
      have c2 : (i : Int) < (n : Int) := by omega
      have c3 : (0 : Int) ≤ (p : Int) := Int.natCast_nonneg _
      have c4 : (p : Int) < (n : Int) := by omega
      have b6 : IntKind.i64.wrap ((i : Int) + 1) = ((i + 1 : Nat) : Int) := by rw [IntWalk.i64_in _ (by omega)]; omega
      have hv2 : ¬ (ev : Int) = 0 := by omega
      have hv3 : ((ev : Int) == 0) = false := by simp; omega
      have b7 : (i : Int).tmod (ev : Int) = ((i % ev : Nat) : Int) := by rw [← Int.ofNat_tmod]
      clear b4 hq
      have hA2 : (wideA n (i + 1))[i]? = some (frN i 0) := by rw [wideA_at hlt, if_neg (by omega), if_pos (by omega)]
      have hB : (wideB n on ev i)[p]? = some Fr.z := by rw [← hp, wideB_at p2, if_neg (by omega), p3, if_neg (by omega)]
      have hBp : ((wideB n on ev i).set p (frN i 0))[p]? = some (frN i 0) := by rw [List.getElem?_set, if_pos rfl, if_pos (by simp [wideB]; omega)]
      obtain ⟨r, hr⟩ : ∃ r, i % ev = r := ⟨_, rfl⟩
      rw [hr] at b7
      have Hr := Lib.hid hr
      clear hr
      by_cases h0 : r = 0
      · subst h0
        go_wp2_with (first
          | (refine wpList_store_fr rfl (.tmp 45) (.tmp 44) rfl (k := i) (off := 0) (frN i 0) (by simp [Act.eval]) rfl HS.out.a hA ?_; intro w3 ho hc; have H3 := Lib.hid (HS.out.putA ho hc); rw [wideA_next hi1 hlt] at H3; clear ho hc; obtain ⟨g3, off3, hA3, hg3, y0, y1, y2, y3, y4, y5, y6, y7⟩ := FrSl.at_ (H3.out.a.sl Fr.cells_len) hA2; injection hA3 with hA3; injection hA3 with e1 e2 e3; subst e1; subst e2; simp only [Nat.zero_add, frN] at y0 y1 y2 y3 y4 y5 y6 y7; clear e3)
          | (refine wpList_store_fr rfl (.tmp 60) (.tmp 59) rfl (k := p) (off := 0) (frN i 0) (by simp [Act.eval]) rfl H3.out.b hB ?_; intro w4 ho hc; have H4 := Lib.hid (H3.out.putB ho hc); clear ho hc; obtain ⟨z3, fz, H5⟩ := spoil_x (x := (i : Int)) H4.out hBp))
        have HN : Hid (Wd w (w4.setCell ⟨gB, p * 8 + 3, none⟩ (.int .i64 (i : Int))) gA gB n (wideA n (i + 1)) (wideB n on ev (i + 1))) := by
          have h := H5.out
          rw [List.set_set, show (⟨(frN i 0).node, (frN i 0).part, (frN i 0).depth, (i : Int), (frN i 0).y, (frN i 0).w, (frN i 0).h, (frN i 0).text⟩ : Fr) = frB i ev from by rw [frB, Hr.out, if_pos rfl]; rfl, ← hp, wideB_next hi1 hlt (by omega)] at h
          rw [← hp]
          exact h
        go_roundg (gk - 1)
        case measure => omega
        case rel => exact ⟨i + 1, by omega, by omega, by omega, by go_num, HN⟩
      · have h1 : ((r : Int) == 0) = false := by simp; omega
        go_wp2_with (first
          | (refine wpList_store_fr rfl (.tmp 45) (.tmp 44) rfl (k := i) (off := 0) (frN i 0) (by simp [Act.eval]) rfl HS.out.a hA ?_; intro w3 ho hc; have H3 := Lib.hid (HS.out.putA ho hc); rw [wideA_next hi1 hlt] at H3; clear ho hc; obtain ⟨g3, off3, hA3, hg3, y0, y1, y2, y3, y4, y5, y6, y7⟩ := FrSl.at_ (H3.out.a.sl Fr.cells_len) hA2; injection hA3 with hA3; injection hA3 with e1 e2 e3; subst e1; subst e2; simp only [Nat.zero_add, frN] at y0 y1 y2 y3 y4 y5 y6 y7; clear e3)
          | (refine wpList_store_fr rfl (.tmp 60) (.tmp 59) rfl (k := p) (off := 0) (frN i 0) (by simp [Act.eval]) rfl H3.out.b hB ?_; intro w4 ho hc; have H4 := Lib.hid (H3.out.putB ho hc); clear ho hc))
        have HN : Hid (Wd w w4 gA gB n (wideA n (i + 1)) (wideB n on ev (i + 1))) := by
          have h := H4.out
          rw [show frN i 0 = frB i ev from by rw [frB, Hr.out, if_neg h0], ← hp, wideB_next hi1 hlt (by omega)] at h
          exact h
        go_roundg (gk - 1)
        case measure => omega
        case rel => exact ⟨i + 1, by omega, by omega, by omega, by go_num, HN⟩
    · obtain rfl : i = n := by omega
      have hcA := wideA_chk (n := i) (by omega) (by omega)
      have hcB := wideB_chk (n := i) (on := on) (ev := ev) (by omega) (by omega) (by omega)
      have hlA : Hid (i = (wideA i i).length) := by rw [Hid]; simp [wideA]
      have hlB : Hid (i = (wideB i on ev i).length) := by rw [Hid]; simp [wideB]
      obtain ⟨A, hA⟩ : ∃ A, Hid (wideA i i = A) := ⟨_, rfl⟩
      obtain ⟨B, hB⟩ : ∃ B, Hid (wideB i on ev i = B) := ⟨_, rfl⟩
      rw [hA.out] at HS hcA hlA
      rw [hB.out] at HS hcB hlB
      have hbe : Hid (Below w.heap.size w wr) := HS.out.be
      have E3 : Hid (diffE A B = (diffL A B, 0)) := by rw [Hid, diffE, if_neg (by simp [hcA, hcB])]
      have hdl := len_diff A B
      rw [← hlA.out, ← hlB.out] at hdl
      have D1 := Lib.hid (diff_any A B (some ⟨gA, 0, none⟩) (some ⟨gB, 0, none⟩) i i i i wr (HS.out.a.sl Fr.cells_len) (chk_wf hcA) hlA (HS.out.b.sl Fr.cells_len) (chk_wf hcB) hlB)
      have D2 := fun W (hW : Below wr.heap.size wr W) => Lib.hid (rdiff_any A B (some ⟨gA, 0, none⟩) (some ⟨gB, 0, none⟩) i i i i W (slw' (HS.out.a.sl Fr.cells_len) hW) (chk_wf hcA) hlA (slw' (HS.out.b.sl Fr.cells_len) hW) (chk_wf hcB) hlB (by unfold maxLen; omega) (by unfold maxLen; omega))
      rw [E3.out] at D1
      simp only [E3.out] at D2
      clear hcA hcB HS
      go_wp2_with fail
      refine (D1.out).mono ?_; rintro e w5 ⟨A5, n5, c5, rfl, ho5, _, hb5⟩
      have hn5 : n5 = (diffL A B).length := OwnA.len ho5
      have HE5 := Lib.hid (ho5.sl Ed.cells_len)
      have HB5 := Lib.hid hb5
      have Hn5 := Lib.hid hn5
      clear ho5 hb5 hn5
      go_wp2_with fail
      refine ((D2 _ HB5.out).out).mono ?_; rintro e w6 ⟨A6, n6, c6, rfl, ho6, _, hb6⟩
      have hn6 : n6 = (diffL A B).length := OwnA.len ho6
      have HB6 := Lib.hid (ext_under hbe.out (Nat.le_refl _) (ext_under HB5.out (Nat.le_refl _) hb6))
      have SE : Hid (Calls Try.prog 47 #[.slice A5 n5 c5, .slice A6 n6 c6] w6 fun e w' => e = .returned (.bool true) ∧ Below w6.heap.size w6 w') := by
        have h := EdB.rsame_any (diffL A B) (diffL A B) A5 A6 c5 c6 w6 (slw' HE5.out hb6) (ho6.sl Ed.cells_len) (by unfold maxLen; omega) (by unfold maxLen; omega)
        rw [eqE_self, ← hn6] at h
        rw [Hn5.out, ← hn6]
        exact h
      clear ho6 hb6 hn6 D1 D2
      go_wp2_with fail
      refine (SE.out).mono ?_; rintro e w7 ⟨rfl, hb7⟩
      have HB7 := Lib.hid (ext_under HB6.out (Nat.le_refl _) hb7)
      clear hb7
      go_wp2
      go_ret
      exact ⟨rfl, HB7.out⟩
set_option maxRecDepth 100000 in
theorem lifted (os : Os) (started : os.Started) (H : Type) (enc : TypeId × Value → H) :
    ReturnsInHanded {} Try.checked os 7 .any (Rows.diffWideSpec.pre6 enc Try.prog Try.f7 Rows.diffWideRow.domain false) (Rows.diffWideSpec.post enc Try.prog Try.f7 false true false false) := by
  refine returnsInHanded_of_change_sized (C := Try.checked) own started (by kernel_rfl) Try.func7
    (ChangeSpec.witness6 (enc := enc) (C := Try.checked) false ⟨#[], #[.int .i64 0, .int .i64 0, .int .i64 0], []⟩ 8 (by kernel_rfl) (by kernel_rfl) (by kernel_rfl) (by kernel_rfl)) ?_
  intro W base args ds gs before hval0 hW hcnd hsz0 _
  have hval : ∀ (j : Nat) t v, Try.f7.params[j]? = some t → args[j]? = some v → Value.okWide Try.prog W .any base t v := hval0
  have hW' := hW
  obtain ⟨p, q, hA0, hV, rfl, hfz, hnd⟩ := hW
  have hA : DataW.TrodAll enc Try.prog W 0 (fun _ => true) true Try.f7.params.toList args.toList ds p := hA0
  have hsz : (DataW.weightsEach Try.prog (Try.f7.params.toList ++ []) (ds ++ gs)).all (· ≤ reachBytes) = true := hsz0
  rw [Try.params7] at hA hval hsz
  have hAll := hA
  obtain ⟨v0, vs0, d0, ds0, p0, q0, hargs, rfl, rfl, h0, r0⟩ := trodAll_cons hA
  obtain ⟨v1, vs1, d1, ds1, p1, q1, rfl, rfl, rfl, h1, r1⟩ := trodAll_cons r0
  obtain ⟨v2, vs2, d2, ds2, p2, q2, rfl, rfl, rfl, h2, r2⟩ := trodAll_cons r1
  obtain ⟨rfl, rfl, rfl⟩ := trodAll_nil r2
  obtain rfl : args = #[v0, v1, v2] := by cases args; simp_all
  obtain ⟨rfl, rfl⟩ := trodVars_none hV
  obtain ⟨n, rfl, _, _, n_wf⟩ := open_int Try.underlying3 (hval 0 3 v0 rfl rfl) h0
  obtain ⟨on, rfl, _, _, on_wf⟩ := open_int Try.underlying3 (hval 1 3 v1 rfl rfl) h1
  obtain ⟨every, rfl, _, _, every_wf⟩ := open_int Try.underlying3 (hval 2 3 v2 rfl rfl) h2
  refine (walk n on every W).mono fun e W' ⟨he, bel⟩ => ?_
  subst he
  exact ⟨_, rfl, _, _, _, [], _, [], hW', trodAll_mk1 (shut_bool Try.underlying4 _), keep_args laidOut bel (by kernel_rfl) hAll, rfl, bel.frame _, fun h => by cases h⟩

theorem over : Rows.diffWideRow.holds Try.pinned (OpenSpec.ofChange Rows.diffWideSpec) :=
  OpenClaim.holds_of_wide 7 Try.f7 rfl rfl rfl rfl rfl rfl rfl ⟨rfl, rfl, rfl, rfl, rfl⟩ rfl rfl rfl rfl rfl (by kernel_rfl) Try.func7 (by kernel_rfl)
    (of_decide_eq_true (by kernel_rfl)) (by unfold Func.isWrapper; first | (rw [if_pos (by decide +kernel)]; kernel_rfl) | (rw [if_neg (by decide +kernel)]; exact ⟨rfl, rfl⟩))
    (fun os started H enc _ => lifted os started H enc)

theorem proved : Rows.DiffWideSaid := over
#print axioms proved
end Go.Proofs.Ytiljpbncfofnhaa.lawWide
