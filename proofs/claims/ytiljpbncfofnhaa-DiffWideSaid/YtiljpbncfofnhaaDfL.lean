/- diff: the document's Diff. -/
import Derived.Test.YtiljpbncfofnhaaDfI
import Derived.Test.YtiljpbncfofnhaaDfK
import Derived.Outline
import Derived.BigQuiet
import Derived.Deep.QuietTactic
import Derived.Deep.RegionWith
import Derived.Deep.RegionHeld3
import Derived.Deep.DrawnRows
import Derived.Deep.LoopGhost
import Derived.Deep.DeepCutAuto
import Derived.Laws.EntriesVeiled
import Derived.BigRegion
import Derived.BigQuiet
import Derived.Deep.RegionLaw
namespace Go.Proofs.Ytiljpbncfofnhaa.Dif
open Go.RowKit Go.ChangeShapes Go.WideShapes Go.ChangeAt
set_option linter.unusedVariables false
set_option linter.unusedSimpArgs false
attribute [local go_sem ↓] Go.wp_at_zero Go.wp_at_succ
open FragA FragB MayA Tree EdC EdB
attribute [local go_sem ↓] frEq'
attribute [local go_sem] frGuard
/-- the memory of the document's Diff -/
structure RdM (w wr : World) (sv : Value) (l : List (Nat × Nat)) (s : List Ed) (v : Value) : Prop where
  own : OwnA wr 69 12 Ed.cells v s
  vf : ∀ g, v.ownBlock = some g → w.heap.size ≤ g
  sown : OwnA wr 87 2 encP sv l
  be : Below w.heap.size w wr
section
variable {w wr w' w9 : World} {sv v v' : Value} {l : List (Nat × Nat)} {s xs : List Ed} {o : Obj}
theorem RdM.ext (h : RdM w wr sv l s v) (hb : Below wr.heap.size wr w') : RdM w w' sv l s v := ⟨h.own.ext hb, h.vf, h.sown.ext hb, ext_under h.be (Nat.le_refl _) hb⟩
theorem RdM.app (h : RdM w wr sv l s v) (hown : OwnA w9 69 12 Ed.cells v' (s ++ xs)) (hch : Chg (fun k => v.ownBlock = some k) (wr.alloc o) w9) (hat : v'.ownBlock = v.ownBlock ∨ v'.ownBlock = some (wr.alloc o).heap.size) : RdM w w9 sv l (s ++ xs) v' := by
  have h1 := h.ext (EdF.below_a wr o)
  refine ⟨hown, fun b hb => ?_, h1.sown.chg hch (fun b hb e => h1.own.apartA h1.sown (by decide) e hb), h1.be.trans (hch.below h1.be.size (fun i hi e => by have := h.vf i e; omega))⟩
  rcases hat with e | e
  · exact h.vf b (e ▸ hb)
  · rw [e] at hb
    injection hb with hb
    have := h.be.size
    simp at hb
    omega
theorem RdM.box (h : RdM w wr sv l s v) {gb : Nat} {t : TypeId} {cs : Array Value} (hb : Blk wr gb t cs) (ht : 69 ≠ t) (hch : Chg (fun k => v.ownBlock = some k) (wr.alloc o) w9) : Blk w9 gb t cs :=
  (hb.ext (EdF.below_a wr o)).chg hch (fun e => (h.own.ext (EdF.below_a wr o)).apart (hb.ext (EdF.below_a wr o)) ht e)
end
theorem RdM.last {w wr : World} {sv : Value} {l : List (Nat × Nat)} {s : List Ed} {vb vo n c : Nat} (h : RdM w wr sv l s (.slice (some ⟨vb, vo, none⟩) n c)) {k : Nat} {e : Ed} (hx : s[k]? = some e) (m : Int) : RdM w (wr.setCell ⟨vb, vo + k * 12 + 1, none⟩ (.int .i64 m)) sv l (s.set k ⟨e.kind, m, e.node, e.part, e.f⟩) (.slice (some ⟨vb, vo, none⟩) n c) := by
  have hset : Chg (fun i => i = vb) wr (wr.setCell ⟨vb, vo + k * 12 + 1, none⟩ (.int .i64 m)) := (Chg.refl (fun i => i = vb) wr).setCell (p := ⟨vb, _, none⟩) (fun _ => rfl) _
  refine ⟨h.own.store Ed.cells_len hx (by omega) (by simp [Ed.cells]), h.vf, h.sown.chg hset (fun b hb e => by subst e; exact h.own.apartA h.sown (by decide) rfl hb), h.be.setCell (by simpa using h.vf vb rfl) _⟩
/-- where it is -/
structure RdL (a b : List Fr) (j at_ nx : Nat) (s : List Ed) : Prop where
  eq : diffL a b = diffGo a (b.drop j) j at_ ((stayL a b).drop nx) s
  bd : ∀ e ∈ s, 0 ≤ e.n ∧ e.n ≤ (2048 + j : Nat)
  len : s.length ≤ 2 * j
theorem RdL.new {a b : List Fr} {j at_ nx : Nat} {s : List Ed} (h : RdL a b j at_ nx s) {q : Fr} (hx : b[j]? = some q) (ht : takesD ((stayL a b).drop nx) j = false) : RdL a b (j + 1) at_ nx (newD a s q) :=
  ⟨by rw [h.eq, drop_at hx, diffGo_new ht], bd_new h.bd a q, by have := len_new a s q; have := h.len; omega⟩
theorem RdL.take {a b : List Fr} {i j at_ nx : Nat} {s : List Ed} {q f : Fr} (h : RdL a b j at_ nx s) (hst : (stayL a b)[nx]? = some (i, j)) (hx : b[j]? = some q) (hf : a[i]? = some f) (ha : a.length ≤ 2048) : RdL a b (j + 1) (i + 1) (nx + 1) (becomeD (skipD s ((i : Int) - at_)) f q) := by
  have hi := (List.getElem?_eq_some_iff.1 hf).1
  refine ⟨by rw [h.eq, drop_at hx, drop_at hst, diffGo_take hf], bd_become (bd_skip h.bd (by omega)) f q, ?_⟩
  have h3 := len_become (skipD s ((i : Int) - at_)) f q
  have h4 := len_skip s ((i : Int) - at_)
  have := h.len
  omega
theorem takes_at {l : List (Nat × Nat)} {nx j : Nat} : takesD (l.drop nx) j = match l[nx]? with
    | none => false
    | some x => x.2 == j := by
  rcases hl : l[nx]? with _ | x
  · rw [List.drop_of_length_le (List.getElem?_eq_none_iff.1 hl)]; rfl
  · rw [drop_at hl]; rfl
set_option maxRecDepth 100000 in
theorem rdiff_no (a b : List Fr) (A B : Option Addr) (na ca nb cb : Nat) (w : World) (ha : FrSl w w.heap.size A a) (hwa : FrsWf a) (hna : Hid (na = a.length)) (hb : FrSl w w.heap.size B b) (hwb : FrsWf b) (hnb : Hid (nb = b.length)) (h63 : na ≤ maxLen) (m63 : nb ≤ maxLen) (h0 : chk a ≠ 0 ∨ chk b ≠ 0) :
    Calls Try.prog 50 #[.slice A na ca, .slice B nb cb] w (RetDf w (diffE a b)) := by
  have hE : Hid (diffE a b = ([], 200)) := by rw [Hid, diffE, if_pos h0]
  have HC := Lib.hid (rstay_any a b A B na ca nb cb w ha hwa hna hb hwb hnb h63 m63)
  rw [stayE, if_pos h0] at HC
  clear h0 ha hb
  go_enter Try.func50, Try.ntmps50
  go_wp2_with fail
  refine (HC.out).mono ?_; rintro e w1 ⟨v, rfl, hown, hfr, hb1⟩
  have HB := Lib.hid hb1
  clear hb1 hown hfr
  go_wp2
  refine bodyPost_ret (by simp [results, Try.results50, go_sem]; rfl) rfl ?_
  rw [hE.out]
  exact ⟨none, 0, 0, rfl, OwnA.nil_ _ _ _ _, (fun g h => nomatch h), HB.out⟩
set_option maxRecDepth 100000 in
set_option maxHeartbeats 16000000 in
theorem rdiff_yes (a b : List Fr) (A B : Option Addr) (na ca nb cb : Nat) (w : World) (ha : FrSl w w.heap.size A a) (hwa : FrsWf a) (hna : Hid (na = a.length)) (hb : FrSl w w.heap.size B b) (hwb : FrsWf b) (hnb : Hid (nb = b.length)) (h63 : na ≤ maxLen) (m63 : nb ≤ maxLen) (h0 : chk a = 0) (h1 : chk b = 0) :
    Calls Try.prog 50 #[.slice A na ca, .slice B nb cb] w (RetDf w (diffE a b)) := by
  have hE : Hid (diffE a b = (diffL a b, 0)) := by rw [Hid, diffE, if_neg (by simp [h0, h1])]
  have HC := Lib.hid (rstay_any a b A B na ca nb cb w ha hwa hna hb hwb hnb h63 m63)
  rw [stayE, if_neg (by simp [h0, h1])] at HC
  have hna2 : na ≤ 2048 := by rw [hna.out]; exact (FCheck.chk_zero h0).2.2
  have hnb2 : nb ≤ 2048 := by rw [hnb.out]; exact (FCheck.chk_zero h1).2.2
  clear h0 h1 h63 m63
  have HA := Lib.hid ha
  have HBs := Lib.hid hb
  clear ha hb
  obtain ⟨i0, hi0, hz, hz1, hz2⟩ := info_parts edInfo
  go_enter Try.func50, Try.ntmps50
  go_wp2_with fail
  refine (HC.out).mono ?_; rintro e w1 ⟨v, rfl, hown, hfr, hb1⟩
  obtain ⟨A1, n1, c1, rfl, hn1, _, _, _⟩ := hown.form
  have HM0 : Hid (RdM w w1 (.slice A1 n1 c1) (stayL a b) [] (.slice none 0 0)) := ⟨OwnA.nil_ _ _ _ _, (fun g h => nomatch h), hown, hb1⟩
  have HL0 : Hid (RdL a b 0 0 0 []) := ⟨rfl, (fun e h => nomatch h), Nat.le_refl _⟩
  clear hown hfr hb1 HC
  go_wp2
  go_loopg [8, 9, 10, 11] nb (fun gh v8 v9 v10 v11 wr => ∃ (j at_ nx : Nat) (s : List Ed) (A8 : Option Addr) (n8 c8 : Nat), nb ≤ j + gh ∧ j ≤ nb ∧ at_ ≤ 2048 ∧ v8 = .slice A8 n8 c8 ∧ v9 = .int .i64 (at_ : Int) ∧ v10 = .int .i64 (nx : Int) ∧ v11 = .int .i64 (j : Int) ∧ nx ≤ 100000 + j ∧ Hid (RdL a b j at_ nx s) ∧ Hid (RdM w wr (.slice A1 n1 c1) (stayL a b) s (.slice A8 n8 c8)))
  case atStart => exact ⟨0, 0, 0, _, _, _, _, by omega, by omega, by omega, rfl, rfl, rfl, rfl, by omega, HL0, HM0⟩
  case round =>
    clear HM0 HL0
    obtain ⟨j, at_, nx, s, A8, n8, c8, hg, hjn, hat, rfl, rfl, rfl, rfl, hnx, HLg, HM⟩ := hrel
    by_cases hlt : j < nb
    · have hjl : j < b.length := by rw [← hnb.out]; exact hlt
      obtain ⟨q, hx⟩ : ∃ q, b[j]? = some q := ⟨_, List.getElem?_eq_getElem hjl⟩
      have hbe := HM.out.be
      obtain ⟨bb, off, rfl, hbb, c0, c1', c2, c3, c4, c5, c6', c7⟩ := FrSl.at_ ((Sl.below HBs.out hbe).more hbe.size) hx
      have d1 : (0 : Int) ≤ (j : Int) := Int.natCast_nonneg _
      have d2 : (j : Int) < (nb : Int) := by omega
      have d3 : (0 : Int) ≤ (nx : Int) := Int.natCast_nonneg _
      have HX := Lib.hid hx
      have w3 : IntKind.i64.wrap ((j : Int) + 1) = ((j + 1 : Nat) : Int) := by rw [IntWalk.i64_in _ (by omega)]; omega
      clear hx hbe hjl
      go_upto_region 10 with fail
      have HM : Hid (RdM w (wr.alloc (.cells #[.int .i64 q.node, .int .i64 q.part, .int .i64 q.depth, .int .i64 q.x, .int .i64 q.y, .int .i64 q.w, .int .i64 q.h, .string q.text] 67)) (.slice A1 n1 c1) (stayL a b) s (.slice A8 n8 c8)) := HM.out.ext (EdF.below_a wr (.cells #[.int .i64 q.node, .int .i64 q.part, .int .i64 q.depth, .int .i64 q.x, .int .i64 q.y, .int .i64 q.w, .int .i64 q.h, .string q.text] 67))
      have HBx : Hid (Blk (wr.alloc (.cells #[.int .i64 q.node, .int .i64 q.part, .int .i64 q.depth, .int .i64 q.x, .int .i64 q.y, .int .i64 q.w, .int .i64 q.h, .string q.text] 67)) wr.heap.size 67 q.cells.toArray) := Blk.new wr 67 q.cells.toArray
      have hgb : wr.heap.size < (wr.alloc (.cells #[.int .i64 q.node, .int .i64 q.part, .int .i64 q.depth, .int .i64 q.x, .int .i64 q.y, .int .i64 q.w, .int .i64 q.h, .string q.text] 67)).heap.size := by simp
      clear c0 c1' c2 c3 c4 c5 c6' c7
      obtain ⟨x0, x1, x2, x3, x4, x5, x6, x7⟩ := EdC.fbox_cells HBx.out
      generalize wr.alloc (.cells #[.int .i64 q.node, .int .i64 q.part, .int .i64 q.depth, .int .i64 q.x, .int .i64 q.y, .int .i64 q.w, .int .i64 q.h, .string q.text] 67) = w4 at *
      generalize wr.heap.size = gb at *
      obtain ⟨tk, htk⟩ : ∃ tk, Hid (takesD ((stayL a b).drop nx) j = tk) := ⟨_, rfl⟩
      go_cut [47] (fun s47 wx => s47 = .bool tk ∧ w4 = wx)
      case first =>
        have htk2 : Hid ((match (stayL a b)[nx]? with | none => false | some x => x.2 == j) = tk) := by rw [Hid, ← htk.out, takes_at]
        cases hst : (stayL a b)[nx]? with
        | none =>
          rw [hst] at htk2
          have ht : false = tk := htk2.out
          have hno : ¬ nx < n1 := by rw [hn1.out]; have := List.getElem?_eq_none_iff.1 hst; omega
          have hno' : decide (nx < n1) = false := decide_eq_false hno
          clear hst htk htk2 HM HBx x0 x1 x2 x3 x4 x5 x6 x7
          subst ht
          go_wp2
          go_meet
          exact ⟨rfl, rfl⟩
        | some x =>
          obtain ⟨i, j'⟩ := x
          rw [hst] at htk2
          have hlt1 : nx < n1 := by rw [hn1.out]; exact (List.getElem?_eq_some_iff.1 hst).1
          have hlt1' : decide (nx < n1) = true := decide_eq_true hlt1
          have hlt2 : (nx : Int) < (n1 : Int) := by omega
          obtain ⟨pg, po, rfl, hpg, y0, y1⟩ := PSl.at_ (HM.out.sown.sl encP_len) hst
          clear hst htk HM HBx x0 x1 x2 x3 x4 x5 x6 x7
          by_cases hj : j' = j
          · have hj1 : ((j' : Int) == (j : Int)) = true := by simp [hj]
            have ht2 : true = tk := by rw [← htk2.out]; simp [hj]
            clear hj htk2
            subst ht2
            go_wp2
            go_meet
            exact ⟨rfl, rfl⟩
          · have hj1 : ((j' : Int) == (j : Int)) = false := by simp; omega
            have ht2 : false = tk := by rw [← htk2.out]; simpa using hj
            clear hj htk2
            subst ht2
            go_wp2
            go_meet
            exact ⟨rfl, rfl⟩
      case rest =>
        obtain ⟨rfl, rfl⟩ := hcut
        cases tk with
        | true =>
          have htk2 := htk.out
          rw [takes_at] at htk2
          cases hst : (stayL a b)[nx]? with
          | none => rw [hst] at htk2; cases htk2
          | some x =>
           obtain ⟨i, j'⟩ := x
           rw [hst] at htk2
           have hj : j' = j := by simpa using htk2
           subst hj
           have hil := stayL_lt (i, j') (List.mem_of_getElem? hst)
           obtain ⟨f, hf⟩ : ∃ f, a[i]? = some f := ⟨_, List.getElem?_eq_getElem hil⟩
           have hnl : nx < (stayL a b).length := (List.getElem?_eq_some_iff.1 hst).1
           have hsl2 := stayL_len a b
           have hnx1 : (nx : Int) < (n1 : Int) := by rw [hn1.out]; omega
           have hnx2 : nx + 1 ≤ 100000 + (j' + 1) := by omega
           obtain ⟨pg, po, rfl, hpg, y0, y1⟩ := PSl.at_ (HM.out.sown.sl encP_len) hst
           have hia : i < na := by rw [hna.out]; exact hil
           have w8 : IntKind.i64.wrap ((i : Int) - (at_ : Int)) = (i : Int) - (at_ : Int) := IntWalk.i64_in _ (by omega)
           have w9 : IntKind.i64.wrap ((i : Int) + 1) = ((i + 1 : Nat) : Int) := by rw [IntWalk.i64_in _ (by omega)]; omega
           have w10 : IntKind.i64.wrap ((nx : Int) + 1) = ((nx + 1 : Nat) : Int) := by rw [IntWalk.i64_in _ (by rw [← hnb.out] at hsl2; omega)]; omega
           have hi1 : (0 : Int) ≤ (i : Int) := Int.natCast_nonneg _
           have hi2 : (i : Int) < (na : Int) := by omega
           have hi3 : i + 1 ≤ 2048 := by omega
           have HT := Lib.hid (HLg.out.take hst HX.out hf (by rw [← hna.out]; exact hna2))
           have HF := Lib.hid hf
           have hsl : s.length ≤ 100000 := by have := HLg.out.len; omega
           have hbd : ∀ e ∈ skipD s ((i : Int) - at_), 0 ≤ e.n ∧ e.n ≤ 1000000 := fun e he => by
             have := bd_skip HLg.out.bd (n := (i : Int) - at_) (by omega) e he
             omega
           have hln : (skipD s ((i : Int) - at_)).length ≤ 200000 := by have := len_skip s ((i : Int) - at_); omega
           have HBD := Lib.hid (And.intro hbd hln)
           clear hst htk htk2 hil hf hnl hsl2 hbd hln
           go_upto_if 57 with fail
           go_cut [8] (fun s8 wx => ∃ A3 n3 c3, s8 = .slice A3 n3 c3 ∧ Hid (RdM w wx (.slice (some ⟨pg, po, none⟩) n1 c1) (stayL a b) (skipD s ((i : Int) - at_)) (.slice A3 n3 c3) ∧ Blk wx gb 67 q.cells.toArray))
           case first =>
            by_cases hc : at_ < i
            · have hc' : decide (at_ < i) = true := decide_eq_true hc
              have hD : Hid (skipD s ((i : Int) - at_) = s ++ [⟨1, (i : Int) - at_, 0, 0, ⟨0, 0, 0, 0, 0, 0, 0, ⟨#[]⟩⟩⟩]) := by rw [Hid, skipD, if_pos (by omega)]; rfl
              have a1 : Hid (s.length + [((⟨1, (i : Int) - at_, 0, 0, ⟨0, 0, 0, 0, 0, 0, 0, ⟨#[]⟩⟩⟩) : Ed)].length ≤ maxLen) := (by rw [Hid]; simp [maxLen]; omega); have a2 : Hid ((s.length + [((⟨1, (i : Int) - at_, 0, 0, ⟨0, 0, 0, 0, 0, 0, 0, ⟨#[]⟩⟩⟩) : Ed)].length) * 104 ≤ 140737488355328) := (by rw [Hid]; simp; omega); have HO : Hid (∀ o, OwnA (w4.alloc o) 69 12 Ed.cells (.slice A8 n8 c8) s) := fun o => HM.out.own.ext (EdF.below_a _ _); have HL := Lib.hid (ed_lit w4 (⟨1, (i : Int) - at_, 0, 0, ⟨0, 0, 0, 0, 0, 0, 0, ⟨#[]⟩⟩⟩))
              clear x0 x1 x2 x3 x4 x5 x6 x7
              go_wp2_with (at_builtin; refine wpList_append_a _ rfl _ _ _ rfl 69 i0 _ 12 104 Try.underlying60 hi0 hz hz1 hz2 rfl (by decide) Ed.cells_len Ed.cells_one (.slice A8 n8 c8) s (by rfl) (HO.out _) _ (some ⟨w4.heap.size, 0, none⟩) [(⟨1, (i : Int) - at_, 0, 0, ⟨0, 0, 0, 0, 0, 0, 0, ⟨#[]⟩⟩⟩ : Ed)] 1 1 (by rfl) rfl HL.out a1.out a2.out ?_; intro v' w9 hown hchg hat; obtain ⟨A9, n9, c9, rfl, _, _, _, _⟩ := hown.form; have HP := Lib.hid (And.intro (HM.out.app hown hchg hat) (HM.out.box HBx.out (by decide) hchg)); clear hown hchg hat)
              rw [← hD.out] at HP
              go_meet
              exact ⟨A9, n9, c9, rfl, HP⟩
            · have hc' : decide (at_ < i) = false := decide_eq_false hc
              have hD : Hid (skipD s ((i : Int) - at_) = s) := by rw [Hid, skipD, if_neg (by omega)]
              have HP := Lib.hid (And.intro HM.out HBx.out)
              rw [← hD.out] at HP
              clear x0 x1 x2 x3 x4 x5 x6 x7
              go_wp2
              go_meet
              exact ⟨A8, n8, c8, rfl, HP⟩
           case rest =>
            obtain ⟨A3, n3, c3, rfl, H3⟩ := hcut
            obtain ⟨s1, hs1⟩ : ∃ s1, Hid (skipD s ((i : Int) - at_) = s1) := ⟨_, rfl⟩
            rw [hs1.out] at H3 HT HBD
            have HM := Lib.hid H3.out.1
            have HBx := Lib.hid H3.out.2
            have hn3 : n3 = s1.length := OwnA.len HM.out.own
            have hgb5 := HBx.out.lt
            have hbe := HM.out.be
            obtain ⟨ab, aoff, rfl, hab, z0, z1, z2, z3, z4, z5, z6, z7⟩ := FrSl.at_ ((Sl.below HA.out hbe).more hbe.size) HF.out
            clear x0 x1 x2 x3 x4 x5 x6 x7 H3 hbe y0 y1 hs1
            obtain ⟨x0, x1, x2, x3, x4, x5, x6, x7⟩ := EdC.fbox_cells HBx.out
            have hn3b : n3 ≤ 200000 := by rw [hn3]; exact HBD.out.2
            obtain ⟨eq, heq⟩ : ∃ eq, Fr.beq f q = eq := ⟨_, rfl⟩
            obtain ⟨kp, hkp⟩ : ∃ kp, (match s1.getLast? with | none => false | some e => eq && (e.kind == 0)) = kp := ⟨_, rfl⟩
            have hkp := Lib.hid hkp
            have HN3 := Lib.hid hn3
            clear hn3
            go_upto_region 18 with fail
            go_cut [76] (fun s76 wx => s76 = .bool kp ∧ Hid (Below wc.heap.size wc wx))
            case first =>
             cases eq with
             | false =>
              have hk : false = kp := by rw [← hkp.out]; cases s1.getLast? <;> rfl
              clear hkp
              subst hk
              go_quiet (fail)
              have hB5 : Below wc.heap.size wc (wc.drewN nq) := bdrewN (Below.refl _ _) nq
              generalize wc.drewN nq = w5 at *
              have HB5 := Lib.hid hB5
              clear hB5
              go_wp2
              go_meet
              exact ⟨rfl, HB5⟩
             | true =>
              cases hl : s1.getLast? with
              | none =>
                have hk : false = kp := by rw [← hkp.out, hl]
                have hz : n3 = 0 := by rw [HN3.out]; rw [List.getLast?_eq_none_iff] at hl; rw [hl]; rfl
                clear hkp hl HN3
                subst hk
                subst hz
                go_quiet (fail)
                have hB5 : Below wc.heap.size wc (wc.drewN nq) := bdrewN (Below.refl _ _) nq
                generalize wc.drewN nq = w5 at *
                have HB5 := Lib.hid hB5
                clear hB5
                go_wp2
                go_meet
                exact ⟨rfl, HB5⟩
              | some e =>
                have hk : (e.kind == 0) = kp := by rw [← hkp.out, hl]; rfl
                obtain ⟨_, hx, hpos⟩ := set_last (x := e) hl
                obtain ⟨vb, vo, rfl, hvb, v0, -, -, -, -, -, -, -, -, -, -, -⟩ := EdSl.at_ (HM.out.own.sl Ed.cells_len) hx
                obtain ⟨k, hkk⟩ : ∃ k, Hid (s1.length - 1 = k) := ⟨_, rfl⟩
                rw [hkk.out] at v0
                have hk2 : (k : Int) = (n3 : Int) - 1 := by have := hkk.out; have := HN3.out; omega
                have hw1 : IntKind.i64.wrap ((n3 : Int) - 1) = (k : Int) := (IntWalk.i64_in _ (by omega)).trans hk2.symm
                have b1 : (0 : Int) ≤ (k : Int) := Int.natCast_nonneg _
                have b2 : (k : Int) < (n3 : Int) := by omega
                have b3 : (0 : Int) < (n3 : Int) := by omega
                have b4 : decide (0 < n3) = true := decide_eq_true (by omega)
                clear hkp hl hx hpos hk2
                subst hk
                go_quiet (fail)
                have hB5 : Below wc.heap.size wc (wc.drewN nq) := bdrewN (Below.refl _ _) nq
                generalize wc.drewN nq = w5 at *
                have HB5 := Lib.hid hB5
                clear hB5
                go_wp2
                go_meet
                exact ⟨rfl, HB5⟩
            case rest =>
             obtain ⟨rfl, HB5⟩ := hcut
             have HM : Hid (RdM w wc (.slice (some ⟨pg, po, none⟩) n1 c1) (stayL a b) s1 (.slice A3 n3 c3)) := HM.out.ext HB5.out
             have HBx : Hid (Blk wc gb 67 q.cells.toArray) := HBx.out.ext HB5.out
             have hgb7 := HBx.out.lt
             have hbe := HM.out.be
             clear x0 x1 x2 x3 x4 x5 x6 x7 z0 z1 z2 z3 z4 z5 z6 z7 HB5 hab hgb5
             obtain ⟨ab2, aoff2, hA2, hab, z0, z1, z2, z3, z4, z5, z6, z7⟩ := FrSl.at_ ((Sl.below HA.out hbe).more hbe.size) HF.out
             injection hA2 with hA2
             injection hA2 with e1 e2 e3
             subst e1
             subst e2
             obtain ⟨x0, x1, x2, x3, x4, x5, x6, x7⟩ := EdC.fbox_cells HBx.out
             clear hbe e3
             cases kp with
             | true =>
              cases hl : s1.getLast? with
              | none => have h := hkp.out; rw [hl] at h; cases h
              | some e =>
                have h := hkp.out
                rw [hl] at h
                simp only [Bool.and_eq_true, beq_iff_eq] at h
                obtain ⟨he, hk⟩ := h
                obtain ⟨hset, hx, hpos⟩ := set_last (x := ⟨0, e.n + 1, e.node, e.part, e.f⟩) hl
                have hD : becomeD s1 f q = s1.set (s1.length - 1) ⟨e.kind, e.n + 1, e.node, e.part, e.f⟩ := by rw [becomeD, if_pos (heq.trans he), keepD, hl, hk, hset]; simp [hk]
                have hD := Lib.hid hD
                have hen := HBD.out.1 e (List.mem_of_getLast? hl)
                obtain ⟨vb, vo, rfl, hvb, v0, v1, -, -, -, -, -, -, -, -, -, -⟩ := EdSl.at_ (HM.out.own.sl Ed.cells_len) hx
                obtain ⟨off', cap', cur, hv, hgg, _⟩ := HM.out.own.row (g := vb) rfl
                have HP := Lib.hid (HM.out.last hx (e.n + 1))
                obtain ⟨k, hkk⟩ : ∃ k, Hid (s1.length - 1 = k) := ⟨_, rfl⟩
                rw [hkk.out] at v1 HP hD
                rw [← hD.out] at HP
                have fz : wc.frozen? ⟨vb, vo + k * 12 + 1, none⟩ = false := frozen_of_row wc vb _ cur _ hgg
                have hk2 : (k : Int) = (n3 : Int) - 1 := by have := hkk.out; have := HN3.out; omega
                have hw1 : IntKind.i64.wrap ((n3 : Int) - 1) = (k : Int) := (IntWalk.i64_in _ (by omega)).trans hk2.symm
                have hw2 : IntKind.i64.wrap (e.n + 1) = e.n + 1 := IntWalk.i64_in _ (by omega)
                have b1 : (0 : Int) ≤ (k : Int) := Int.natCast_nonneg _
                have b2 : (k : Int) < (n3 : Int) := by omega
                clear hkp hl hx hpos hk2 v0 hset hv hgg he hk x0 x1 x2 x3 x4 x5 x6 x7 z0 z1 z2 z3 z4 z5 z6 z7 heq
                go_wp2
                go_roundg (gk - 1)
                case measure => omega
                case rel => exact ⟨j' + 1, i + 1, nx + 1, _, _, n3, c3, by omega, by omega, hi3, rfl, rfl, rfl, by go_num, hnx2, HT, HP.out⟩
             | false =>
              cases eq with
              | true =>
                have hD : Hid (becomeD s1 f q = s1 ++ [⟨0, 1, 0, 0, ⟨0, 0, 0, 0, 0, 0, 0, ⟨#[]⟩⟩⟩]) := by
                   rw [Hid, becomeD, if_pos heq, keepD]
                   have h := hkp.out
                   cases hl : s1.getLast? with
                   | none => rfl
                   | some e =>
                     rw [hl] at h
                     have hk : ¬ e.kind = 0 := by simpa using h
                     simp only [if_neg hk]; rfl
                clear hkp
                go_wp2_with fail
                go_quiet (fail)
                have hB6 : Below wc.heap.size wc (wc.drewN nq) := bdrewN (Below.refl _ _) nq
                generalize wc.drewN nq = w6 at *
                have HM : Hid (RdM w w6 (.slice (some ⟨pg, po, none⟩) n1 c1) (stayL a b) s1 (.slice A3 n3 c3)) := HM.out.ext hB6
                have HBx : Hid (Blk w6 gb 67 q.cells.toArray) := HBx.out.ext hB6
                have hgb6 := HBx.out.lt
                have hsl : s1.length ≤ 200000 := HBD.out.2
                clear hB6 x0 x1 x2 x3 x4 x5 x6 x7 z0 z1 z2 z3 z4 z5 z6 z7 heq
                have a1 : Hid (s1.length + [((⟨0, 1, 0, 0, ⟨0, 0, 0, 0, 0, 0, 0, ⟨#[]⟩⟩⟩) : Ed)].length ≤ maxLen) := (by rw [Hid]; simp [maxLen]; omega); have a2 : Hid ((s1.length + [((⟨0, 1, 0, 0, ⟨0, 0, 0, 0, 0, 0, 0, ⟨#[]⟩⟩⟩) : Ed)].length) * 104 ≤ 140737488355328) := (by rw [Hid]; simp; omega); have HO : Hid (∀ o, OwnA (w6.alloc o) 69 12 Ed.cells (.slice A3 n3 c3) s1) := fun o => HM.out.own.ext (EdF.below_a _ _); have HL := Lib.hid (ed_lit w6 (⟨0, 1, 0, 0, ⟨0, 0, 0, 0, 0, 0, 0, ⟨#[]⟩⟩⟩))
                go_wp2_with (at_builtin; refine wpList_append_a _ rfl _ _ _ rfl 69 i0 _ 12 104 Try.underlying60 hi0 hz hz1 hz2 rfl (by decide) Ed.cells_len Ed.cells_one (.slice A3 n3 c3) s1 (by rfl) (HO.out _) _ (some ⟨w6.heap.size, 0, none⟩) [(⟨0, 1, 0, 0, ⟨0, 0, 0, 0, 0, 0, 0, ⟨#[]⟩⟩⟩ : Ed)] 1 1 (by rfl) rfl HL.out a1.out a2.out ?_; intro v' w9 hown hchg hat; obtain ⟨A9, n9, c9, rfl, _, _, _, _⟩ := hown.form; have HP := Lib.hid (And.intro (HM.out.app hown hchg hat) (HM.out.box HBx.out (by decide) hchg)); clear hown hchg hat)
                rw [← hD.out] at HP
                go_roundg (gk - 1)
                case measure => omega
                case rel => exact ⟨j' + 1, i + 1, nx + 1, _, A9, n9, c9, by omega, by omega, hi3, rfl, rfl, rfl, by go_num, hnx2, HT, HP.out.1⟩
              | false =>
                clear hkp
                go_wp2_with fail
                go_quiet (fail)
                have hB6 : Below wc.heap.size wc (wc.drewN nq) := bdrewN (Below.refl _ _) nq
                generalize wc.drewN nq = w6 at *
                have HM : Hid (RdM w w6 (.slice (some ⟨pg, po, none⟩) n1 c1) (stayL a b) s1 (.slice A3 n3 c3)) := HM.out.ext hB6
                have HBx : Hid (Blk w6 gb 67 q.cells.toArray) := HBx.out.ext hB6
                have hgb6 := HBx.out.lt
                have hbe := HM.out.be
                clear hB6 x0 x1 x2 x3 x4 x5 x6 x7 z0 z1 z2 z3 z4 z5 z6 z7
                obtain ⟨ab3, aoff3, hA3, hab3, z0, z1, z2, z3, z4, z5, z6, z7⟩ := FrSl.at_ ((Sl.below HA.out hbe).more hbe.size) HF.out
                injection hA3 with hA3
                injection hA3 with e1 e2 e3
                subst e1
                subst e2
                obtain ⟨x0, x1, x2, x3, x4, x5, x6, x7⟩ := EdC.fbox_cells HBx.out
                obtain ⟨tx, htx⟩ : ∃ tx, (f.text.toList == q.text.toList) = tx := ⟨_, rfl⟩
                clear hbe e3
                go_wp2_with fail
                go_quiet (fail)
                have hB7 : Below w6.heap.size w6 (w6.drewN nq) := bdrewN (Below.refl _ _) nq
                generalize w6.drewN nq = w7 at *
                have HM : Hid (RdM w w7 (.slice (some ⟨pg, po, none⟩) n1 c1) (stayL a b) s1 (.slice A3 n3 c3)) := HM.out.ext hB7
                have HBx : Hid (Blk w7 gb 67 q.cells.toArray) := HBx.out.ext hB7
                have hgb8 := HBx.out.lt
                have hsl : s1.length ≤ 200000 := HBD.out.2
                clear hB7 x0 x1 x2 x3 x4 x5 x6 x7 z0 z1 z2 z3 z4 z5 z6 z7
                obtain ⟨x0, x1, x2, x3, x4, x5, x6, x7⟩ := EdC.fbox_cells HBx.out
                cases tx with
                | true =>
                   have hD : Hid (becomeD s1 f q = s1 ++ [⟨4, 0, 0, 0, ⟨0, 0, q.depth, q.x, q.y, q.w, q.h, ⟨#[]⟩⟩⟩]) := by rw [Hid, becomeD, if_neg (by rw [heq]; simp), if_pos htx]; rfl
                   clear heq htx
                   have a1 : Hid (s1.length + [((⟨4, 0, 0, 0, ⟨0, 0, q.depth, q.x, q.y, q.w, q.h, ⟨#[]⟩⟩⟩) : Ed)].length ≤ maxLen) := (by rw [Hid]; simp [maxLen]; omega); have a2 : Hid ((s1.length + [((⟨4, 0, 0, 0, ⟨0, 0, q.depth, q.x, q.y, q.w, q.h, ⟨#[]⟩⟩⟩) : Ed)].length) * 104 ≤ 140737488355328) := (by rw [Hid]; simp; omega); have HO : Hid (∀ o, OwnA (w7.alloc o) 69 12 Ed.cells (.slice A3 n3 c3) s1) := fun o => HM.out.own.ext (EdF.below_a _ _); have HL := Lib.hid (ed_lit w7 (⟨4, 0, 0, 0, ⟨0, 0, q.depth, q.x, q.y, q.w, q.h, ⟨#[]⟩⟩⟩))
                   go_wp2_with (at_builtin; refine wpList_append_a _ rfl _ _ _ rfl 69 i0 _ 12 104 Try.underlying60 hi0 hz hz1 hz2 rfl (by decide) Ed.cells_len Ed.cells_one (.slice A3 n3 c3) s1 (by rfl) (HO.out _) _ (some ⟨w7.heap.size, 0, none⟩) [(⟨4, 0, 0, 0, ⟨0, 0, q.depth, q.x, q.y, q.w, q.h, ⟨#[]⟩⟩⟩ : Ed)] 1 1 (by rfl) rfl HL.out a1.out a2.out ?_; intro v' w9 hown hchg hat; obtain ⟨A9, n9, c9, rfl, _, _, _, _⟩ := hown.form; have HP := Lib.hid (And.intro (HM.out.app hown hchg hat) (HM.out.box HBx.out (by decide) hchg)); clear hown hchg hat)
                   rw [← hD.out] at HP
                   go_roundg (gk - 1)
                   case measure => omega
                   case rel => exact ⟨j' + 1, i + 1, nx + 1, _, A9, n9, c9, by omega, by omega, hi3, rfl, rfl, rfl, by go_num, hnx2, HT, HP.out.1⟩
                | false =>
                   have hD : Hid (becomeD s1 f q = s1 ++ [⟨5, 0, 0, 0, ⟨0, 0, 0, 0, 0, 0, 0, q.text⟩⟩]) := by rw [Hid, becomeD, if_neg (by rw [heq]; simp), if_neg (by simp [htx])]
                   clear heq htx
                   have a1 : Hid (s1.length + [((⟨5, 0, 0, 0, ⟨0, 0, 0, 0, 0, 0, 0, q.text⟩⟩) : Ed)].length ≤ maxLen) := (by rw [Hid]; simp [maxLen]; omega); have a2 : Hid ((s1.length + [((⟨5, 0, 0, 0, ⟨0, 0, 0, 0, 0, 0, 0, q.text⟩⟩) : Ed)].length) * 104 ≤ 140737488355328) := (by rw [Hid]; simp; omega); have HO : Hid (∀ o, OwnA (w7.alloc o) 69 12 Ed.cells (.slice A3 n3 c3) s1) := fun o => HM.out.own.ext (EdF.below_a _ _); have HL := Lib.hid (ed_lit w7 (⟨5, 0, 0, 0, ⟨0, 0, 0, 0, 0, 0, 0, q.text⟩⟩))
                   go_wp2_with (at_builtin; refine wpList_append_a _ rfl _ _ _ rfl 69 i0 _ 12 104 Try.underlying60 hi0 hz hz1 hz2 rfl (by decide) Ed.cells_len Ed.cells_one (.slice A3 n3 c3) s1 (by rfl) (HO.out _) _ (some ⟨w7.heap.size, 0, none⟩) [(⟨5, 0, 0, 0, ⟨0, 0, 0, 0, 0, 0, 0, q.text⟩⟩ : Ed)] 1 1 (by rfl) rfl HL.out a1.out a2.out ?_; intro v' w9 hown hchg hat; obtain ⟨A9, n9, c9, rfl, _, _, _, _⟩ := hown.form; have HP := Lib.hid (And.intro (HM.out.app hown hchg hat) (HM.out.box HBx.out (by decide) hchg)); clear hown hchg hat)
                   rw [← hD.out] at HP
                   go_roundg (gk - 1)
                   case measure => omega
                   case rel => exact ⟨j' + 1, i + 1, nx + 1, _, A9, n9, c9, by omega, by omega, hi3, rfl, rfl, rfl, by go_num, hnx2, HT, HP.out.1⟩
        | false =>
          obtain ⟨ex, hex⟩ : ∃ ex, Hid (exactD a q = ex) := ⟨_, rfl⟩
          have HF := Lib.hid (rfind_any a A ca q.node q.part w4 ((Sl.below HA.out HM.out.be).more HM.out.be.size) (by rw [← hna.out]; unfold maxLen; omega))
          rw [← hna.out] at HF
          go_wp2_with fail
          refine (HF.out).mono ?_; rintro e w' ⟨rfl, rfl⟩
          go_upto_region 25 with fail
          go_cut [155] (fun s155 wx => s155 = .bool ex ∧ Hid (Below w4.heap.size w4 wx))
          case first =>
            cases hk : keyAt a q with
            | none =>
              have he : false = ex := by rw [← hex.out, exactD, hk]
              have hneg : findFrom q.node q.part a 0 < 0 := by
                by_cases h : findFrom q.node q.part a 0 < 0
                · exact h
                · rw [keyAt, if_neg h] at hk; cases hk
              have hneg2 : decide (0 ≤ findFrom q.node q.part a 0) = false := decide_eq_false (by omega)
              subst he
              clear hk hex HF
              generalize findFrom q.node q.part a 0 = z at *
              go_quiet (fail)
              have hB5 : Below w4.heap.size w4 (w4.drewN nq) := bdrewN (Below.refl _ _) nq
              generalize w4.drewN nq = w5 at *
              have HB5 := Lib.hid hB5
              clear hB5
              go_wp2
              go_meet
              exact ⟨rfl, HB5⟩
            | some i =>
              obtain ⟨f, hf, -, -⟩ := keyAt_lt hk
              have hil := (List.getElem?_eq_some_iff.1 hf).1
              have hpos : Hid (findFrom q.node q.part a 0 = (i : Int)) := by
                rw [keyAt] at hk
                split at hk
                · cases hk
                · injection hk with hk
                  rw [Hid]
                  omega
              obtain ⟨eq, heq⟩ : ∃ eq, Fr.beq f q = eq := ⟨_, rfl⟩
              have he : eq = ex := by
                rw [← hex.out, exactD, hk]
                simp only [hf]
                exact heq.symm
              subst he
              have hi1 : (0 : Int) ≤ (i : Int) := Int.natCast_nonneg _
              have hi2 : (i : Int) < (na : Int) := by rw [hna.out]; omega
              have hbe := HM.out.be
              obtain ⟨ab, aoff, rfl, hab, z0, z1, z2, z3, z4, z5, z6, z7⟩ := FrSl.at_ ((Sl.below HA.out hbe).more hbe.size) hf
              clear hk hex hf hil hbe HF
              have hpos' := hpos.out
              go_quiet (fail)
              have hB5 : Below w4.heap.size w4 (w4.drewN nq) := bdrewN (Below.refl _ _) nq
              generalize w4.drewN nq = w5 at *
              have HB5 := Lib.hid hB5
              clear hB5
              go_wp2
              go_meet
              exact ⟨rfl, HB5⟩
          case rest =>
            obtain ⟨rfl, HB5⟩ := hcut
            have HM : Hid (RdM w wc (.slice A1 n1 c1) (stayL a b) s (.slice A8 n8 c8)) := HM.out.ext HB5.out
            have HBx : Hid (Blk wc gb 67 q.cells.toArray) := HBx.out.ext HB5.out
            obtain ⟨z0, z1, z2, z3, z4, z5, z6, z7⟩ := EdC.fbox_cells HBx.out
            have hgb5 := HBx.out.lt
            have hsl : s.length ≤ 100000 := by have := HLg.out.len; omega
            clear x0 x1 x2 x3 x4 x5 x6 x7 HB5 HF
            cases ex with
            | true =>
              have hD : Hid (newD a s q = s ++ [⟨3, 0, q.node, q.part, ⟨0, 0, 0, 0, 0, 0, 0, ⟨#[]⟩⟩⟩]) := by rw [Hid, newD, if_pos hex.out]; rfl
              have a1 : Hid (s.length + [((⟨3, 0, q.node, q.part, ⟨0, 0, 0, 0, 0, 0, 0, ⟨#[]⟩⟩⟩) : Ed)].length ≤ maxLen) := (by rw [Hid]; simp [maxLen]; omega); have a2 : Hid ((s.length + [((⟨3, 0, q.node, q.part, ⟨0, 0, 0, 0, 0, 0, 0, ⟨#[]⟩⟩⟩) : Ed)].length) * 104 ≤ 140737488355328) := (by rw [Hid]; simp; omega); have HO : Hid (∀ o, OwnA (wc.alloc o) 69 12 Ed.cells (.slice A8 n8 c8) s) := fun o => HM.out.own.ext (EdF.below_a _ _); have HL := Lib.hid (ed_lit wc (⟨3, 0, q.node, q.part, ⟨0, 0, 0, 0, 0, 0, 0, ⟨#[]⟩⟩⟩))
              go_wp2_with (at_builtin; refine wpList_append_a _ rfl _ _ _ rfl 69 i0 _ 12 104 Try.underlying60 hi0 hz hz1 hz2 rfl (by decide) Ed.cells_len Ed.cells_one (.slice A8 n8 c8) s (by rfl) (HO.out _) _ (some ⟨wc.heap.size, 0, none⟩) [(⟨3, 0, q.node, q.part, ⟨0, 0, 0, 0, 0, 0, 0, ⟨#[]⟩⟩⟩ : Ed)] 1 1 (by rfl) rfl HL.out a1.out a2.out ?_; intro v' w9 hown hchg hat; obtain ⟨A9, n9, c9, rfl, _, _, _, _⟩ := hown.form; have HP := Lib.hid (And.intro (HM.out.app hown hchg hat) (HM.out.box HBx.out (by decide) hchg)); clear hown hchg hat)
              rw [← hD.out] at HP
              go_roundg (gk - 1)
              case measure => omega
              case rel => exact ⟨j + 1, at_, nx, newD a s q, A9, n9, c9, by omega, by omega, by omega, rfl, rfl, rfl, by go_num, by omega, HLg.out.new HX.out htk.out, HP.out.1⟩
            | false =>
              have hD : Hid (newD a s q = s ++ [⟨2, 0, 0, 0, q⟩]) := by rw [Hid, newD, if_neg (by rw [hex.out]; simp)]
              have a1 : Hid (s.length + [((⟨2, 0, 0, 0, q⟩) : Ed)].length ≤ maxLen) := (by rw [Hid]; simp [maxLen]; omega); have a2 : Hid ((s.length + [((⟨2, 0, 0, 0, q⟩) : Ed)].length) * 104 ≤ 140737488355328) := (by rw [Hid]; simp; omega); have HO : Hid (∀ o, OwnA (wc.alloc o) 69 12 Ed.cells (.slice A8 n8 c8) s) := fun o => HM.out.own.ext (EdF.below_a _ _); have HL := Lib.hid (ed_lit wc (⟨2, 0, 0, 0, q⟩))
              go_wp2_with (at_builtin; refine wpList_append_a _ rfl _ _ _ rfl 69 i0 _ 12 104 Try.underlying60 hi0 hz hz1 hz2 rfl (by decide) Ed.cells_len Ed.cells_one (.slice A8 n8 c8) s (by rfl) (HO.out _) _ (some ⟨wc.heap.size, 0, none⟩) [(⟨2, 0, 0, 0, q⟩ : Ed)] 1 1 (by rfl) rfl HL.out a1.out a2.out ?_; intro v' w9 hown hchg hat; obtain ⟨A9, n9, c9, rfl, _, _, _, _⟩ := hown.form; have HP := Lib.hid (And.intro (HM.out.app hown hchg hat) (HM.out.box HBx.out (by decide) hchg)); clear hown hchg hat)
              rw [← hD.out] at HP
              go_roundg (gk - 1)
              case measure => omega
              case rel => exact ⟨j + 1, at_, nx, newD a s q, A9, n9, c9, by omega, by omega, by omega, rfl, rfl, rfl, by go_num, by omega, HLg.out.new HX.out htk.out, HP.out.1⟩
    · have HF : Hid (diffL a b = skipD s ((a.length : Int) - at_)) := by
        have h := HLg.out.eq
        rw [List.drop_of_length_le (by rw [← hnb.out]; omega), diffGo] at h
        exact h
      rw [← hna.out] at HF
      have w8 : IntKind.i64.wrap ((na : Int) - (at_ : Int)) = (na : Int) - (at_ : Int) := IntWalk.i64_in _ (by omega)
      by_cases hs : at_ < na
      · have hs' : decide (at_ < na) = true := decide_eq_true hs
        have hsl : s.length ≤ 100000 := by have := HLg.out.len; omega
        have hD : Hid (skipD s ((na : Int) - at_) = s ++ [⟨1, (na : Int) - at_, 0, 0, ⟨0, 0, 0, 0, 0, 0, 0, ⟨#[]⟩⟩⟩]) := by rw [Hid, skipD, if_pos (by omega)]; rfl
        have HBx : Hid True := trivial
        have a1 : Hid (s.length + [((⟨1, (na : Int) - at_, 0, 0, ⟨0, 0, 0, 0, 0, 0, 0, ⟨#[]⟩⟩⟩) : Ed)].length ≤ maxLen) := (by rw [Hid]; simp [maxLen]; omega); have a2 : Hid ((s.length + [((⟨1, (na : Int) - at_, 0, 0, ⟨0, 0, 0, 0, 0, 0, 0, ⟨#[]⟩⟩⟩) : Ed)].length) * 104 ≤ 140737488355328) := (by rw [Hid]; simp; omega); have HO : Hid (∀ o, OwnA (wr.alloc o) 69 12 Ed.cells (.slice A8 n8 c8) s) := fun o => HM.out.own.ext (EdF.below_a _ _); have HL := Lib.hid (ed_lit wr (⟨1, (na : Int) - at_, 0, 0, ⟨0, 0, 0, 0, 0, 0, 0, ⟨#[]⟩⟩⟩))
        go_wp2_with (at_builtin; refine wpList_append_a _ rfl _ _ _ rfl 69 i0 _ 12 104 Try.underlying60 hi0 hz hz1 hz2 rfl (by decide) Ed.cells_len Ed.cells_one (.slice A8 n8 c8) s (by rfl) (HO.out _) _ (some ⟨wr.heap.size, 0, none⟩) [(⟨1, (na : Int) - at_, 0, 0, ⟨0, 0, 0, 0, 0, 0, 0, ⟨#[]⟩⟩⟩ : Ed)] 1 1 (by rfl) rfl HL.out a1.out a2.out ?_; intro v' w9 hown hchg hat; obtain ⟨A9, n9, c9, rfl, _, _, _, _⟩ := hown.form; have HP := Lib.hid (HM.out.app hown hchg hat); clear hown hchg hat)
        refine bodyPost_ret (by simp [results, Try.results50, go_sem]; rfl) rfl ?_
        rw [hE.out, HF.out, hD.out]
        exact ⟨A9, n9, c9, rfl, HP.out.own, HP.out.vf, HP.out.be⟩
      · have hs' : decide (at_ < na) = false := decide_eq_false hs
        have hD : Hid (skipD s ((na : Int) - at_) = s) := by rw [Hid, skipD, if_neg (by omega)]
        go_wp2
        refine bodyPost_ret (by simp [results, Try.results50, go_sem]; rfl) rfl ?_
        rw [hE.out, HF.out, hD.out]
        exact ⟨A8, n8, c8, rfl, HM.out.own, HM.out.vf, HM.out.be⟩
theorem rdiff_any (a b : List Fr) (A B : Option Addr) (na ca nb cb : Nat) (w : World) (ha : FrSl w w.heap.size A a) (hwa : FrsWf a) (hna : Hid (na = a.length)) (hb : FrSl w w.heap.size B b) (hwb : FrsWf b) (hnb : Hid (nb = b.length)) (h63 : na ≤ maxLen) (m63 : nb ≤ maxLen) :
    Calls Try.prog 50 #[.slice A na ca, .slice B nb cb] w (RetDf w (diffE a b)) := by
  by_cases h0 : chk a = 0
  · by_cases h1 : chk b = 0
    · exact rdiff_yes a b A B na ca nb cb w ha hwa hna hb hwb hnb h63 m63 h0 h1
    · exact rdiff_no a b A B na ca nb cb w ha hwa hna hb hwb hnb h63 m63 (.inr h1)
  · exact rdiff_no a b A B na ca nb cb w ha hwa hna hb hwb hnb h63 m63 (.inl h0)
end Go.Proofs.Ytiljpbncfofnhaa.Dif
