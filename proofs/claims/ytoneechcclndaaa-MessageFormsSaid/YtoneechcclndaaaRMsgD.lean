/- message: the document's Print. -/
import Derived.Test.YtoneechcclndaaaRMsgC
import Derived.Test.YtoneechcclndaaaMsgW
import Derived.Test.YtoneechcclndaaaRPutC
import Derived.Outline
import Derived.BigQuiet
import Derived.Deep.QuietTactic
import Derived.Deep.RegionWith
import Derived.Deep.RegionHeld3
import Derived.Deep.DrawnRows
import Derived.Deep.LoopGhost
import Derived.Deep.DeepCutAuto
import Derived.Laws.EntriesVeiled
namespace Go.Proofs.Ytoneechcclndaaa.Msg
open Go.RowKit Go.ChangeShapes Go.WideShapes Go.ChangeAt
set_option linter.unusedVariables false
set_option linter.unusedSimpArgs false
attribute [local go_sem ↓] Go.wp_at_zero Go.wp_at_succ
open Go.Shelf Go.Proofs.Ytoneechcclndaaa.Word Go.Proofs.Ytoneechcclndaaa.Wire

theorem own_lit {α : Type} {enc : α → List Value} {c : Nat} (w : World) (l : List α) (t : TypeId) (he : ∀ x, (enc x).length = c) (hl : l.length ≤ maxLen) : OwnA (w.alloc (.cells (l.flatMap enc).toArray t)) t c enc (.slice (some ⟨w.heap.size, 0, none⟩) l.length l.length) l :=
  .inr ⟨w.heap.size, 0, l.length, _, rfl, heap_alloc_new w _, Nat.le_refl _, hl, by simp [flat_length he], by rw [List.drop_zero, List.take_of_length_le]; rw [← flat_length he l]; simp⟩
theorem lit_at {α : Type} {enc : α → List Value} {c : Nat} {W : World} {g : Nat} (l : List α) (t : TypeId) (he : ∀ x, (enc x).length = c) (hg : W.heap.size = g) : Sl (W.alloc (.cells (l.flatMap enc).toArray t)) (W.alloc (.cells (l.flatMap enc).toArray t)).heap.size c enc (some ⟨g, 0, none⟩) l := by
  subst hg; exact lit_list W l t he
theorem rput_vals {k : Kk} {m : Ms} (sb : ByteArray) (rs : List Wr) (A5 : Option Addr) (n5 c5 : Nat) (w5 : World) (hs : Sl w5 w5.heap.size 5 Wr.cells A5 rs) (hn : n5 = rs.length) (hr : ∀ r ∈ rs, r.Rd w5) (hv : rs.map Wr.v = valsK k m) (hS : sb.data.toList = schS k) {x : List UInt8 × Int} (hx : putP (schS k) (valsK k m) = x) :
    Calls Try.prog 19 #[.string sb, .slice A5 n5 c5] w5 (RetPut w5 x) := by
  have hl := sch_len k
  have hlen : rs.length ≤ 6 := by
    have := congrArg List.length hv
    rw [List.length_map] at this
    rw [this]; unfold valsK; rw [List.length_take]; omega
  have h := rput4_any sb rs A5 n5 c5 w5 (by rw [hS]; omega) ⟨hs, hn, hr, by omega⟩
  rwa [hS, hv, hx] at h
theorem print_is {m : Ms} {k : Kk} (hk : kkOf m.kind = some k) (hm : mayK k m = true) : printM m = putP (schS k) (valsK k m) := by
  unfold printM; rw [hk]; simp only; rw [if_pos hm]
def three (kd q1 q2 : Nat) : List Wr := [mkN kd, mkN q1, mkN q2]
/-- what stands after May: the box, and what came in -/
structure PB (w W : World) (m : Mr) : Prop where
  box : Blk W w.heap.size 48 (Mr.cells m)
  rd : m.Rd W
  be : Below w.heap.size w W
theorem PB.ext {w W W' : World} {m : Mr} (h : PB w W m) (hb : Below W.heap.size W W') : PB w W' m := ⟨h.box.ext hb, h.rd.ext hb, ext_under h.be (Nat.le_refl _) hb⟩
theorem PB.chg {w W W' : World} {m : Mr} {x : Nat} (h : PB w W m) (hx : W.heap.size ≤ x) {o : Obj} {o2 : Obj} (hc : Chg (fun k => some x = some k) ((W.alloc o).alloc o2) W') : PB w W' m := by
  have h1 : Below W.heap.size W ((W.alloc o).alloc o2) := (below_1 W o).trans ((below_1 _ _).mono (by simp))
  exact h.ext (h1.trans (hc.below (by simp; omega) fun i hi hs => by injection hs with hs; omega))
theorem three_rd (W : World) {kd q1 q2 : Nat} (h0 : kd < p64) (h1 : q1 < p64) (h2 : q2 < p64) : ∀ r ∈ three kd q1 q2, r.Rd W := fun r hr => by
  simp only [three, List.mem_cons, List.not_mem_nil, or_false] at hr
  rcases hr with rfl | rfl | rfl
  · exact mkN_rd _ _ h0
  · exact mkN_rd _ _ h1
  · exact mkN_rd _ _ h2
theorem seq_0 {k : Kk} {m : Ms} (hs : k.seq = false) (h : mayK k m = true) : m.seq = 0 := by
  have h4 : inB k.seq m.seq k.least 1099511627776 = true := by simp only [mayK, Bool.and_eq_true] at h; exact h.2.2.2.1
  rw [hs] at h4; simpa [inB] using h4
theorem width_0 {k : Kk} {m : Ms} (hs : k.width = false) (h : mayK k m = true) : m.width = 0 := by
  have h4 : inB k.width m.width 0 2147483648 = true := by simp only [mayK, Bool.and_eq_true] at h; exact h.2.2.1
  rw [hs] at h4; simpa [inB] using h4
theorem vals_w {k : Kk} {kd q1 q2 q3 : Nat} {sq : Int} {la : Bool} {bs : List UInt8} (hk : k = ⟨true, false, false, 0, true⟩) (h : mayK k ⟨kd, (q1 : Int), (q2 : Int), (q3 : Int), sq, la, bs⟩ = true) : (three kd q1 q2 ++ [mkN q3]).map Wr.v = valsK k ⟨kd, (q1 : Int), (q2 : Int), (q3 : Int), sq, la, bs⟩ := by
  have h0 := seq_0 (by rw [hk]) h
  simp only at h0
  subst hk h0
  simp [valsK, schS, vals6, three, mkN, nV]
theorem vals_s {k : Kk} {kd q1 q2 q3 : Nat} {wd : Int} {la : Bool} {bs : List UInt8} (hk : k = ⟨false, true, false, 0, true⟩) (h : mayK k ⟨kd, (q1 : Int), (q2 : Int), wd, (q3 : Int), la, bs⟩ = true) : (three kd q1 q2 ++ [mkN q3]).map Wr.v = valsK k ⟨kd, (q1 : Int), (q2 : Int), wd, (q3 : Int), la, bs⟩ := by
  have h0 := width_0 (by rw [hk]) h
  simp only at h0
  subst hk h0
  simp [valsK, schS, vals6, three, mkN, nV]
theorem vals_d {k : Kk} {kd q1 q2 q3 n c : Nat} {A : Option Addr} {wd : Int} {la : Bool} {bs : List UInt8} (hk : k = ⟨false, true, true, 1, false⟩) (h : mayK k ⟨kd, (q1 : Int), (q2 : Int), wd, (q3 : Int), la, bs⟩ = true) : (three kd q1 q2 ++ [mkN q3, mkF la, mkY bs A n c]).map Wr.v = valsK k ⟨kd, (q1 : Int), (q2 : Int), wd, (q3 : Int), la, bs⟩ := by
  have h0 := width_0 (by rw [hk]) h
  simp only at h0
  subst hk h0
  simp [valsK, schS, vals6, three, mkN, mkF, mkY, nV]
theorem vals_n {k : Kk} {kd q1 q2 : Nat} {wd sq : Int} {la : Bool} {bs : List UInt8} (hd : k.data = false) (hw : k.width = false) (hs : k.seq = false) : (three kd q1 q2).map Wr.v = valsK k ⟨kd, (q1 : Int), (q2 : Int), wd, sq, la, bs⟩ := by
  simp [valsK, schS, hd, hw, hs, vals6, three, mkN, nV]
theorem tail_rd {W : World} {q3 n c : Nat} {la : Bool} {bs : List UInt8} {A : Option Addr} (hq : q3 < p64) (hb : BySl W W.heap.size A bs) (hn : n = bs.length) (hl : bs.length ≤ 1000000) : ∀ r ∈ [mkN q3, mkF la, mkY bs A n c], r.Rd W := fun r hr => by
  simp only [List.mem_cons, List.not_mem_nil, or_false] at hr
  rcases hr with rfl | rfl | rfl
  · exact mkN_rd _ _ hq
  · exact mkF_rd _ _
  · exact ⟨hb, hn, Sl.nil _ _ _ _ _, rfl, wv0_wf.1, wv0_wf.2.1, wv0_wf.2.2.1, wv0_wf.2.2.2.1, hl, wv0_wf.2.2.2.2.2⟩
set_option maxHeartbeats 8000000 in
set_option maxRecDepth 100000 in
theorem rprint24_any (r : Mr) (w : World) (hr : r.Rd w) : Calls Try.prog 33 #[r.agg] w (RetPut w (printM r.v)) := by
  obtain ⟨j0, hj, hy0, hy1, hy2⟩ := info_parts vInfo
  cases hm : mayB r.v with
  | false =>
    have hx := Lib.hid (print_no hm)
    have hmay : Hid (∀ W, Calls Try.prog 34 #[r.agg] W fun e w' => e = .returned (.bool false) ∧ Below W.heap.size W w') := fun W => by rw [← hm]; exact rmay24_any r W hr.kd hr.n.out
    have HP : Hid (PB w (w.alloc (.cells (Mr.cells r) 48)) r) := ⟨Blk.new _ _ _, hr.ext (below_1 _ _), below_1 _ _⟩
    rw [hx.out]
    clear hm hx hr
    unfold Mr.agg at *
    go_enter Try.func33, Try.ntmps33
    go_wp2_with (go_at_call 34; refine (hmay.out _).mono ?_; rintro e w1 ⟨rfl, hb1⟩; have HB := Lib.hid ((HP.out).ext hb1); clear hb1)
    refine bodyPost_ret (v := .tuple #[.slice none 0 0, .int .i64 2]) (by simp [results, Try.results33, go_sem]) rfl ?_
    exact RetPut.err HB.out.be 2 rfl
  | true =>
    obtain ⟨k, hk, hmk, hx⟩ := print_ok hm
    have hpi := print_is hk hmk
    have hmay : Hid (∀ W, Calls Try.prog 34 #[r.agg] W fun e w' => e = .returned (.bool true) ∧ Below W.heap.size W w') := fun W => by rw [← hm]; exact rmay24_any r W hr.kd hr.n.out
    have HP : Hid (PB w (w.alloc (.cells (Mr.cells r) 48)) r) := ⟨Blk.new _ _ _, hr.ext (below_1 _ _), below_1 _ _⟩
    obtain ⟨⟨kd, cl, ep, wd, sq, la, bs⟩, A, n, c⟩ := r
    have hnum := mayK_num hmk
    simp only at hnum hk
    rw [hpi] at hx
    have HX := Lib.hid hx
    rw [hpi]
    have HKD := Lib.hid hr.kd
    have hsc : Hid (∀ W, Calls Try.prog 61 #[.int .u8 (kd : Int)] W fun e w' => e = .returned (.string ⟨(schS k).toArray⟩) ∧ W = w') := fun W => by
      have h := rschema_any24 kd W HKD.out
      unfold rschS at h
      rwa [hk] at h
    obtain ⟨sb, hsb⟩ : ∃ sb : ByteArray, sb = ⟨(schS k).toArray⟩ := ⟨_, rfl⟩
    have HS : Hid (sb.data.toList = schS k) := by rw [Hid, hsb]
    rw [← hsb] at hsc
    obtain ⟨q1, rfl⟩ : ∃ q : Nat, cl = (q : Int) := ⟨cl.toNat, by omega⟩
    obtain ⟨q2, rfl⟩ : ∃ q : Nat, ep = (q : Int) := ⟨ep.toNat, by omega⟩
    have hkb : kd ≤ 255 := HKD.out
    have e0 : IntKind.u64.wrap (kd : Int) = (kd : Int) := IntWalk.u64_in _ (by omega)
    have e1 : IntKind.u64.wrap (q1 : Int) = (q1 : Int) := IntWalk.u64_in _ (by omega)
    have e2 : IntKind.u64.wrap (q2 : Int) = (q2 : Int) := IntWalk.u64_in _ (by omega)
    have HM := Lib.hid (And.intro hk (And.intro hmk hnum))
    have hkc := kk_cases hk
    clear hr hm hx hpi hsb hk hmk hnum
    unfold Mr.agg at *
    simp only at hmay
    rcases hkc with ⟨hkd, hkk⟩ | ⟨hkd, hkk⟩ | ⟨hkd, hkk⟩ | ⟨hkd, hkk⟩ | ⟨hkd, hkk⟩
    · have f1 : ((kd : Int) == 1) = true := by rw [hkd]; rfl
      have HK := Lib.hid (And.intro hkd hkk)
      obtain ⟨q3, hq3⟩ : ∃ q : Nat, wd = (q : Int) := ⟨wd.toNat, by have := HM.out.2.2.2.2.1; omega⟩
      subst hq3
      have e3 : IntKind.u64.wrap (q3 : Int) = (q3 : Int) := IntWalk.u64_in _ (by have := HM.out.2.2.2.2.1; omega)
      clear hkd hkk
      go_enter Try.func33, Try.ntmps33
      go_wp2_with (first | ((go_at_call 34; refine (hmay.out _).mono ?_; rintro e w1 ⟨rfl, hb1⟩; have HB := Lib.hid ((HP.out).ext hb1); clear hb1); have hlt := (HB.out.box).lt; have k0 := HB.out.box.cell 0; have k1 := HB.out.box.cell 1; have k2 := HB.out.box.cell 2; have k3 := HB.out.box.cell 3; have k4 := HB.out.box.cell 4; have k5 := HB.out.box.cell 5; have k6 := HB.out.box.cell 6; simp only [Mr.cells, List.getElem?_toArray, List.getElem?_cons_zero, List.getElem?_cons_succ] at k0 k1 k2 k3 k4 k5 k6) | ((at_builtin; refine wpList_append_a _ rfl _ _ _ rfl 38 j0 _ 5 72 Try.underlying22 hj hy0 hy1 hy2 rfl (by decide) Wr.cells_len Wr.cells_one _ (three kd q1 q2) (by rfl) ((own_lit w1 (three kd q1 q2) 38 Wr.cells_len (by simp [three, maxLen])).alloc _) _ (some ⟨w1.heap.size + 1, 0, none⟩) [mkN q3] 1 1 (by rfl) rfl (lit_at [mkN q3] 38 Wr.cells_len (by simp)) (by simp [three, maxLen]) (by simp [three]) ?_; intro v' w5 hown' hchg hat; obtain ⟨A5, n5, c5, rfl, hn5, hle5, hmx5, hnil5⟩ := hown'.form; have HB5 := Lib.hid (HB.out.chg (Nat.le_refl _) hchg); have HO := Lib.hid hown'; have z0 := HB5.out.box.cell 0; simp only [Mr.cells, List.getElem?_toArray, List.getElem?_cons_zero, List.getElem?_cons_succ] at z0; clear hown' hchg hat)) | (go_at_call 61; refine (hsc.out _).mono ?_; rintro e w' ⟨rfl, rfl⟩))
      have hrd : ∀ r ∈ three kd q1 q2 ++ [mkN q3], r.Rd w5 := fun r hr => by
        rcases List.mem_append.1 hr with h | h
        · exact three_rd _ (by unfold p64; omega) (by have := HM.out.2.2; unfold p64; omega) (by have := HM.out.2.2; unfold p64; omega) r h
        · rw [List.mem_singleton] at h; rw [h]; exact mkN_rd _ _ (by have := HM.out.2.2.2.2.1; unfold p64; omega)
      refine (rput_vals sb _ A5 n5 c5 w5 (HO.out.sl Wr.cells_len) hn5.out hrd (vals_w HK.out.2 HM.out.2.1) HS.out HX.out).mono ?_
      rintro e w6 ⟨hb6, A6, n6, c6, rfl, ho6, hf6⟩; go_wp2; refine bodyPost_ret (v := .tuple #[.slice A6 n6 c6, .int .i64 0]) (by simp [results, Try.results33, go_sem]) rfl ?_; rw [HX.out]
      exact ⟨ext_under HB5.out.be (Nat.le_refl _) hb6, A6, n6, c6, rfl, ho6, fun k hk => Nat.le_trans HB5.out.be.size (hf6 k hk)⟩
    · have f1 : ((kd : Int) == 1) = false := by rw [hkd]; rfl
      have f3 : ((kd : Int) == 3) = false := by rw [hkd]; rfl
      have f4 : ((kd : Int) == 4) = false := by rw [hkd]; rfl
      have HK := Lib.hid (And.intro hkd hkk)
      clear hkd hkk
      go_enter Try.func33, Try.ntmps33
      go_wp2_with (first | ((go_at_call 34; refine (hmay.out _).mono ?_; rintro e w1 ⟨rfl, hb1⟩; have HB := Lib.hid ((HP.out).ext hb1); clear hb1); have hlt := (HB.out.box).lt; have k0 := HB.out.box.cell 0; have k1 := HB.out.box.cell 1; have k2 := HB.out.box.cell 2; have k3 := HB.out.box.cell 3; have k4 := HB.out.box.cell 4; have k5 := HB.out.box.cell 5; have k6 := HB.out.box.cell 6; simp only [Mr.cells, List.getElem?_toArray, List.getElem?_cons_zero, List.getElem?_cons_succ] at k0 k1 k2 k3 k4 k5 k6) | (go_at_call 61; refine (hsc.out _).mono ?_; rintro e w' ⟨rfl, rfl⟩))
      have HW := Lib.hid (HB.out.ext (below_1 w1 (.cells ((three kd q1 q2).flatMap Wr.cells).toArray 38)))
      refine (rput_vals sb (three kd q1 q2) _ _ _ (w1.alloc (.cells ((three kd q1 q2).flatMap Wr.cells).toArray 38)) (lit_list w1 (three kd q1 q2) 38 Wr.cells_len) rfl (three_rd _ (by unfold p64; omega) (by have := HM.out.2.2; unfold p64; omega) (by have := HM.out.2.2; unfold p64; omega)) (vals_n (by rw [HK.out.2]) (by rw [HK.out.2]) (by rw [HK.out.2])) HS.out HX.out).mono ?_
      rintro e w6 ⟨hb6, A6, n6, c6, rfl, ho6, hf6⟩; go_wp2; refine bodyPost_ret (v := .tuple #[.slice A6 n6 c6, .int .i64 0]) (by simp [results, Try.results33, go_sem]) rfl ?_; rw [HX.out]
      exact ⟨ext_under HW.out.be (Nat.le_refl _) hb6, A6, n6, c6, rfl, ho6, fun k hk => Nat.le_trans HW.out.be.size (hf6 k hk)⟩
    · have f1 : ((kd : Int) == 1) = false := by rw [hkd]; rfl
      have f3 : ((kd : Int) == 3) = true := by rw [hkd]; rfl
      have HK := Lib.hid (And.intro hkd hkk)
      have hsq : 0 ≤ sq ∧ sq ≤ 1099511627776 := by have h := HM.out.2.2.2.2.2; rw [hkk] at h; simp only at h; omega
      obtain ⟨q3, hq3⟩ : ∃ q : Nat, sq = (q : Int) := ⟨sq.toNat, by omega⟩
      subst hq3
      have e3 : IntKind.u64.wrap (q3 : Int) = (q3 : Int) := IntWalk.u64_in _ (by omega)
      clear hkd hkk
      go_enter Try.func33, Try.ntmps33
      go_wp2_with (first | ((go_at_call 34; refine (hmay.out _).mono ?_; rintro e w1 ⟨rfl, hb1⟩; have HB := Lib.hid ((HP.out).ext hb1); clear hb1); have hlt := (HB.out.box).lt; have k0 := HB.out.box.cell 0; have k1 := HB.out.box.cell 1; have k2 := HB.out.box.cell 2; have k3 := HB.out.box.cell 3; have k4 := HB.out.box.cell 4; have k5 := HB.out.box.cell 5; have k6 := HB.out.box.cell 6; simp only [Mr.cells, List.getElem?_toArray, List.getElem?_cons_zero, List.getElem?_cons_succ] at k0 k1 k2 k3 k4 k5 k6) | ((at_builtin; refine wpList_append_a _ rfl _ _ _ rfl 38 j0 _ 5 72 Try.underlying22 hj hy0 hy1 hy2 rfl (by decide) Wr.cells_len Wr.cells_one _ (three kd q1 q2) (by rfl) ((own_lit w1 (three kd q1 q2) 38 Wr.cells_len (by simp [three, maxLen])).alloc _) _ (some ⟨w1.heap.size + 1, 0, none⟩) [mkN q3] 1 1 (by rfl) rfl (lit_at [mkN q3] 38 Wr.cells_len (by simp)) (by simp [three, maxLen]) (by simp [three]) ?_; intro v' w5 hown' hchg hat; obtain ⟨A5, n5, c5, rfl, hn5, hle5, hmx5, hnil5⟩ := hown'.form; have HB5 := Lib.hid (HB.out.chg (Nat.le_refl _) hchg); have HO := Lib.hid hown'; have z0 := HB5.out.box.cell 0; simp only [Mr.cells, List.getElem?_toArray, List.getElem?_cons_zero, List.getElem?_cons_succ] at z0; clear hown' hchg hat)) | (go_at_call 61; refine (hsc.out _).mono ?_; rintro e w' ⟨rfl, rfl⟩))
      have hrd : ∀ r ∈ three kd q1 q2 ++ [mkN q3], r.Rd w5 := fun r hr => by
        rcases List.mem_append.1 hr with h | h
        · exact three_rd _ (by unfold p64; omega) (by have := HM.out.2.2; unfold p64; omega) (by have := HM.out.2.2; unfold p64; omega) r h
        · rw [List.mem_singleton] at h; rw [h]; exact mkN_rd _ _ (by unfold p64; omega)
      refine (rput_vals sb _ A5 n5 c5 w5 (HO.out.sl Wr.cells_len) hn5.out hrd (vals_s HK.out.2 HM.out.2.1) HS.out HX.out).mono ?_
      rintro e w6 ⟨hb6, A6, n6, c6, rfl, ho6, hf6⟩; go_wp2; refine bodyPost_ret (v := .tuple #[.slice A6 n6 c6, .int .i64 0]) (by simp [results, Try.results33, go_sem]) rfl ?_; rw [HX.out]
      exact ⟨ext_under HB5.out.be (Nat.le_refl _) hb6, A6, n6, c6, rfl, ho6, fun k hk => Nat.le_trans HB5.out.be.size (hf6 k hk)⟩
    · have f1 : ((kd : Int) == 1) = false := by rw [hkd]; rfl
      have f3 : ((kd : Int) == 3) = false := by rw [hkd]; rfl
      have f4 : ((kd : Int) == 4) = true := by rw [hkd]; rfl
      have HK := Lib.hid (And.intro hkd hkk)
      have hsq : 0 ≤ sq ∧ sq ≤ 1099511627776 := by have h := HM.out.2.2.2.2.2; rw [hkk] at h; simp only at h; omega
      obtain ⟨q3, hq3⟩ : ∃ q : Nat, sq = (q : Int) := ⟨sq.toNat, by omega⟩
      subst hq3
      have e3 : IntKind.u64.wrap (q3 : Int) = (q3 : Int) := IntWalk.u64_in _ (by omega)
      clear hkd hkk
      go_enter Try.func33, Try.ntmps33
      go_wp2_with (first | ((go_at_call 34; refine (hmay.out _).mono ?_; rintro e w1 ⟨rfl, hb1⟩; have HB := Lib.hid ((HP.out).ext hb1); clear hb1); have hlt := (HB.out.box).lt; have k0 := HB.out.box.cell 0; have k1 := HB.out.box.cell 1; have k2 := HB.out.box.cell 2; have k3 := HB.out.box.cell 3; have k4 := HB.out.box.cell 4; have k5 := HB.out.box.cell 5; have k6 := HB.out.box.cell 6; simp only [Mr.cells, List.getElem?_toArray, List.getElem?_cons_zero, List.getElem?_cons_succ] at k0 k1 k2 k3 k4 k5 k6) | ((at_builtin; refine wpList_append_a _ rfl _ _ _ rfl 38 j0 _ 5 72 Try.underlying22 hj hy0 hy1 hy2 rfl (by decide) Wr.cells_len Wr.cells_one _ (three kd q1 q2) (by rfl) ((own_lit w1 (three kd q1 q2) 38 Wr.cells_len (by simp [three, maxLen])).alloc _) _ (some ⟨w1.heap.size + 1, 0, none⟩) [mkN q3, mkF la, mkY bs A n c] 3 3 (by rfl) rfl (lit_at [mkN q3, mkF la, mkY bs A n c] 38 Wr.cells_len (by simp)) (by simp [three, maxLen]) (by simp [three]) ?_; intro v' w5 hown' hchg hat; obtain ⟨A5, n5, c5, rfl, hn5, hle5, hmx5, hnil5⟩ := hown'.form; have HB5 := Lib.hid (HB.out.chg (Nat.le_refl _) hchg); have HO := Lib.hid hown'; have z0 := HB5.out.box.cell 0; simp only [Mr.cells, List.getElem?_toArray, List.getElem?_cons_zero, List.getElem?_cons_succ] at z0; clear hown' hchg hat)) | (go_at_call 61; refine (hsc.out _).mono ?_; rintro e w' ⟨rfl, rfl⟩))
      have hrd : ∀ r ∈ three kd q1 q2 ++ [mkN q3, mkF la, mkY bs A n c], r.Rd w5 := fun r hr => by
        rcases List.mem_append.1 hr with h | h
        · exact three_rd _ (by unfold p64; omega) (by have := HM.out.2.2; unfold p64; omega) (by have := HM.out.2.2; unfold p64; omega) r h
        · exact tail_rd (by unfold p64; omega) HB5.out.rd.b HB5.out.rd.n.out HB5.out.rd.le r h
      refine (rput_vals sb _ A5 n5 c5 w5 (HO.out.sl Wr.cells_len) hn5.out hrd (vals_d HK.out.2 HM.out.2.1) HS.out HX.out).mono ?_
      rintro e w6 ⟨hb6, A6, n6, c6, rfl, ho6, hf6⟩; go_wp2; refine bodyPost_ret (v := .tuple #[.slice A6 n6 c6, .int .i64 0]) (by simp [results, Try.results33, go_sem]) rfl ?_; rw [HX.out]
      exact ⟨ext_under HB5.out.be (Nat.le_refl _) hb6, A6, n6, c6, rfl, ho6, fun k hk => Nat.le_trans HB5.out.be.size (hf6 k hk)⟩
    · have f1 : ((kd : Int) == 1) = false := by rw [hkd]; rfl
      have f3 : ((kd : Int) == 3) = false := by rw [hkd]; rfl
      have f4 : ((kd : Int) == 4) = false := by rw [hkd]; rfl
      have HK := Lib.hid (And.intro hkd hkk)
      clear hkd hkk
      go_enter Try.func33, Try.ntmps33
      go_wp2_with (first | ((go_at_call 34; refine (hmay.out _).mono ?_; rintro e w1 ⟨rfl, hb1⟩; have HB := Lib.hid ((HP.out).ext hb1); clear hb1); have hlt := (HB.out.box).lt; have k0 := HB.out.box.cell 0; have k1 := HB.out.box.cell 1; have k2 := HB.out.box.cell 2; have k3 := HB.out.box.cell 3; have k4 := HB.out.box.cell 4; have k5 := HB.out.box.cell 5; have k6 := HB.out.box.cell 6; simp only [Mr.cells, List.getElem?_toArray, List.getElem?_cons_zero, List.getElem?_cons_succ] at k0 k1 k2 k3 k4 k5 k6) | (go_at_call 61; refine (hsc.out _).mono ?_; rintro e w' ⟨rfl, rfl⟩))
      have HW := Lib.hid (HB.out.ext (below_1 w1 (.cells ((three kd q1 q2).flatMap Wr.cells).toArray 38)))
      refine (rput_vals sb (three kd q1 q2) _ _ _ (w1.alloc (.cells ((three kd q1 q2).flatMap Wr.cells).toArray 38)) (lit_list w1 (three kd q1 q2) 38 Wr.cells_len) rfl (three_rd _ (by unfold p64; omega) (by have := HM.out.2.2; unfold p64; omega) (by have := HM.out.2.2; unfold p64; omega)) (vals_n (by rw [HK.out.2]) (by rw [HK.out.2]) (by rw [HK.out.2])) HS.out HX.out).mono ?_
      rintro e w6 ⟨hb6, A6, n6, c6, rfl, ho6, hf6⟩; go_wp2; refine bodyPost_ret (v := .tuple #[.slice A6 n6 c6, .int .i64 0]) (by simp [results, Try.results33, go_sem]) rfl ?_; rw [HX.out]
      exact ⟨ext_under HW.out.be (Nat.le_refl _) hb6, A6, n6, c6, rfl, ho6, fun k hk => Nat.le_trans HW.out.be.size (hf6 k hk)⟩
end Go.Proofs.Ytoneechcclndaaa.Msg
