/- diff: what stays, in memory. -/
import Derived.Test.YtiljpbncfofnhaaDfG
import Derived.Outline
import Derived.BigQuiet
import Derived.Deep.QuietTactic
import Derived.Deep.RegionWith
import Derived.Deep.RegionHeld3
import Derived.Deep.DrawnRows
import Derived.Deep.LoopGhost
import Derived.Deep.DeepCutAuto
import Derived.Laws.EntriesVeiled
import Derived.BigRegion
import Derived.BigQuiet
import Derived.Deep.RegionLaw
namespace Go.Proofs.Ytiljpbncfofnhaa.Dif
open Go.RowKit Go.ChangeShapes Go.WideShapes Go.ChangeAt
set_option linter.unusedVariables false
set_option linter.unusedSimpArgs false
attribute [local go_sem ↓] Go.wp_at_zero Go.wp_at_succ
open FragA FragB MayA Tree EdC EdB


section
variable {w wr w' : World} {r b1 b2 g gf gl na nb : Nat} {a b : List Fr} {best best' fl ll : List Nat}
theorem StIn.pair (h : StIn w wr r b1 b2 g gf gl na nb a best fl ll) {v : Value} {acc : List (Nat × Nat)} (ho : OwnA wr 87 2 encP v acc) (hc : Chg (fun k => v.ownBlock = some k) wr w') (hv : ∀ g, v.ownBlock = some g → w.heap.size ≤ g) : StIn w w' r b1 b2 g gf gl na nb a best fl ll :=
  ⟨h.km.chg hc (fun e => h.km.off ho e rfl), h.ch.chg hc (fun e => ho.apart h.ch.cnt (by decide) e) (fun e => ho.apart h.ch.sl (by decide) e) (fun e => ho.apartA h.ch.row (by decide) e rfl), h.fr.chg hc (fun b hb e => ho.apartA h.fr (by decide) e hb), h.lo.chg hc (fun b hb e => ho.apartA h.lo (by decide) e hb), h.dist, h.fresh,
    h.be.trans (hc.below h.be.size (fun i hi e => by have := hv i e; omega))⟩
end
/-- those that can stay, of b from m on, have been counted -/
structure StR (w wr : World) (r b1 b2 g gf gl na nb : Nat) (a : List Fr) (fs : List (Option Nat)) (m : Nat) (best : List Nat) : Prop where
  st : StIn w wr r b1 b2 g gf gl na nb a best (flS fs m) (llS fs m)
  fen : Fen na best ((pairsOf (fs.drop m)).map fun x => (na - x.1, x.2))
  bd : ∀ x ∈ best, x ≤ 100000
theorem StR.ext {w wr w' : World} {r b1 b2 g gf gl na nb m : Nat} {a : List Fr} {fs : List (Option Nat)} {best : List Nat} (h : StR w wr r b1 b2 g gf gl na nb a fs m best) (hb : Below wr.heap.size wr w') : StR w w' r b1 b2 g gf gl na nb a fs m best := ⟨h.st.ext hb, h.fen, h.bd⟩
theorem StR.none {w wr : World} {r b1 b2 g gf gl na nb j : Nat} {a : List Fr} {fs : List (Option Nat)} {best : List Nat} (h : StR w wr r b1 b2 g gf gl na nb a fs (j + 1) best) (hx : fs[j]? = some none) : StR w wr r b1 b2 g gf gl na nb a fs j best := by
  refine ⟨?_, ?_, h.bd⟩
  · rw [flS_none hx, llS_none hx]; exact h.st
  · rw [pairsOf_none hx]; exact h.fen
/-- one more counted -/
theorem count_long {w wr : World} {r b1 b2 g gf gl na nb j i : Nat} {a : List Fr} {fs : List (Option Nat)} {best : List Nat} (h : StR w wr r b1 b2 g gf gl na nb a fs (j + 1) best) (hx : fs[j]? = some (some i)) (hi : i < na) (hna : na ≤ 2048) (hv : ∀ x ∈ pairsOf (fs.drop (j + 1)), x.1 < na) (hfs : fs.length ≤ 2048) {L : Nat} (hL : longOf (pairsOf (fs.drop (j + 1))) i + 1 = L) :
    Calls Try.prog 103 #[.int .i64 (i : Int), .pointer (some ⟨b1, 0, none⟩), .pointer (some ⟨b2, 0, none⟩)] wr fun e w' =>
      e = .returned (.int .i64 (L : Int)) ∧ ∃ best', StIn w w' r b1 b2 g gf gl na nb a best' (flS fs (j + 1)) (llS fs (j + 1)) ∧ Fen na best' ((pairsOf (fs.drop j)).map fun x => (na - x.1, x.2)) ∧ ∀ x ∈ best', x ≤ 100000 := by
  have ha := ask_long hv h.fen hi
  have hle := long_le fs (j + 1) i
  refine (count_any h.st.ch i hi hna h.bd).mono ?_
  rintro e w' ⟨rfl, hc, hg⟩
  rw [ha, hL] at hc ⊢
  refine ⟨rfl, _, h.st.count hc hg, ?_, put_bd (na + 1 - (na - i)) _ _ _ (Nat.le_refl _) h.bd (by omega)⟩
  rw [pairsOf_some hx, List.map_cons, hL]
  exact h.fen.put (by omega) (by omega)
set_option maxRecDepth 100000 in
theorem stay_no1 (a b : List Fr) (A B : Option Addr) (na ca nb cb : Nat) (w : World) (ha : FrSl w w.heap.size A a) (hwa : FrsWf a) (hna : Hid (na = a.length)) (h0 : chk a ≠ 0) :
    Calls Try.prog 53 #[.slice A na ca, .slice B nb cb] w (RetSt w (stayE a b)) := by
  have hE : Hid (stayE a b = ([], 200)) := by rw [Hid, stayE, if_pos (.inl h0)]
  have HC := Lib.hid (FCheck.check_any a A na ca w ha hwa hna)
  obtain ⟨x, hx⟩ : ∃ x, chk a = x := ⟨_, rfl⟩
  rw [hx] at HC h0
  have h0' : (x == 0) = false := by simpa using h0
  have h0'' : (x != 0) = true := by simp [h0]
  clear hx h0 ha
  go_enter Try.func53, Try.ntmps53
  go_wp2_with fail
  refine (HC.out).mono ?_; rintro e w1 ⟨rfl, hb1⟩
  have HB := Lib.hid hb1
  clear hb1
  go_wp2
  refine bodyPost_ret (by simp [results, Try.results53, go_sem]; rfl) rfl ?_
  rw [hE.out]
  exact ⟨.slice none 0 0, rfl, OwnA.nil_ _ _ _ _, (fun g h => nomatch h), HB.out⟩
set_option maxRecDepth 100000 in
theorem stay_no2 (a b : List Fr) (A B : Option Addr) (na ca nb cb : Nat) (w : World) (ha : FrSl w w.heap.size A a) (hwa : FrsWf a) (hna : Hid (na = a.length)) (hb : FrSl w w.heap.size B b) (hwb : FrsWf b) (hnb : Hid (nb = b.length)) (h0 : chk a = 0) (h1 : chk b ≠ 0) :
    Calls Try.prog 53 #[.slice A na ca, .slice B nb cb] w (RetSt w (stayE a b)) := by
  have hE : Hid (stayE a b = ([], 200)) := by rw [Hid, stayE, if_pos (.inr h1)]
  have HC := Lib.hid (FCheck.check_any a A na ca w ha hwa hna)
  have HD := fun W (hW : Below w.heap.size w W) => Lib.hid (FCheck.check_any b B nb cb W ((Sl.below hb hW).more hW.size) hwb hnb)
  obtain ⟨x, hx⟩ : ∃ x, chk b = x := ⟨_, rfl⟩
  rw [hx] at HD h1
  rw [h0] at HC
  have h1' : (x == 0) = false := by simpa using h1
  have h1'' : (x != 0) = true := by simp [h1]
  clear hx h1 h0 ha hb
  go_enter Try.func53, Try.ntmps53
  go_wp2_with fail
  refine (HC.out).mono ?_; rintro e w1 ⟨rfl, hb1⟩
  have HB := Lib.hid hb1
  clear hb1
  go_wp2_with fail
  refine ((HD _ HB.out).out).mono ?_; rintro e w2 ⟨rfl, hb2⟩
  have HB2 := Lib.hid (ext_under HB.out (Nat.le_refl _) hb2)
  clear hb2
  go_wp2
  refine bodyPost_ret (by simp [results, Try.results53, go_sem]; rfl) rfl ?_
  rw [hE.out]
  exact ⟨.slice none 0 0, rfl, OwnA.nil_ _ _ _ _, (fun g h => nomatch h), HB2.out⟩
/-- two rows of zeros -/
def Made2 (W wx : World) (n gf gl : Nat) : Prop :=
  OwnA wx 3 1 encK (.slice (some ⟨gf, 0, none⟩) n n) (List.replicate n 0) ∧ OwnA wx 3 1 encK (.slice (some ⟨gl, 0, none⟩) n n) (List.replicate n 0) ∧ gf ≠ gl ∧ W.heap.size ≤ gf ∧ W.heap.size ≤ gl ∧ Below W.heap.size W wx
theorem zeros_at (W : World) (n : Nat) (hn : n ≤ maxLen) : OwnA (W.alloc (.cells (madeCells (Value.int .i64 0).cells n) 3)) 3 1 encK (.slice (some ⟨W.heap.size, 0, none⟩) n n) (List.replicate n 0) := by
  have e := made_flat encK_len (by decide) (0 : Nat) (.int .i64 0) (by rfl) n
  rw [Nat.mul_one] at e
  refine .inr ⟨W.heap.size, 0, n, _, by rw [List.length_replicate], heap_alloc_new W _, by rw [List.length_replicate]; exact Nat.le_refl _, hn, by simp [size_madeCells], ?_⟩
  rw [List.drop_zero, e, List.take_of_length_le (by rw [flat_length encK_len]; exact Nat.le_refl _)]
theorem made2 (W : World) (n : Nat) (hn : n ≤ 100000) : Hid (Made2 W ((W.alloc (.cells (madeCells (Value.int .i64 0).cells n) 3)).alloc (.cells (madeCells (Value.int .i64 0).cells n) 3)).drew n W.heap.size (W.heap.size + 1)) := by
  have hm : n ≤ maxLen := by unfold maxLen; omega
  have h1 := zeros_at W n hm
  have h2 := zeros_at (W.alloc (.cells (madeCells (Value.int .i64 0).cells n) 3)) n hm
  rw [show (W.alloc (.cells (madeCells (Value.int .i64 0).cells n) 3)).heap.size = W.heap.size + 1 from by simp] at h2
  exact ⟨(h1.ext (EdF.below_a _ _)).drew, h2.drew, by omega, Nat.le_refl _, by omega, (((Below.refl _ _).alloc (Nat.le_refl _) _).alloc (by simp) _).drew⟩
theorem made2' (W : World) (n : Nat) (hn : n ≤ 100000) : Hid (Made2 W ((W.alloc (.cells (madeCells (Value.int .i64 0).cells n) 3)).alloc (.cells (madeCells (Value.int .i64 0).cells n) 3)).drew n (W.heap.size + 1) W.heap.size) :=
  ⟨(made2 W n hn).out.2.1, (made2 W n hn).out.1, by omega, by omega, Nat.le_refl _, (made2 W n hn).out.2.2.2.2.2⟩
theorem run_mk (n : Nat) (h : n ≤ 100000) (W : World) : (Instr.makeSlice 122 (.int .i64 (n : Int)) (.int .i64 (n : Int))).run Try.prog W = .ok (.slice (some ⟨W.heap.size, 0, none⟩) n n) (W.alloc (.cells (madeCells (Value.int .i64 0).cells n) 3)) := by
  obtain ⟨i0, hi, hz0, hz1, hz2⟩ := info_parts intInfo
  have hr := run_make (P := Try.prog) W 122 3 i0 _ Try.underlying122 hi hz0 .i64 .i64 n n (by omega) (Int.le_refl _) (by rw [hz2]; omega) (by omega)
  rw [hz1, Nat.mul_one] at hr
  simpa using hr
theorem StR.start {w w2 w3 wx w4 : World} {r b1 b2 g gf gl na nb : Nat} {a : List Fr} {fs : List (Option Nat)} (hr : w2.heap.size ≤ r ∧ KMap w3 r (placesL a 0) ∧ Below w.heap.size w w3) (h2 : Below w.heap.size w w2) (hm : Made2 w3 wx nb gf gl) (hch : ChIn w4 b1 b2 g na (List.replicate (na + 1) 0))
    (h1 : wx.heap.size ≤ b1) (hb2 : wx.heap.size ≤ b2) (hg : wx.heap.size ≤ g) (hb : Below wx.heap.size wx w4) (hfs : fs.length = nb) : StR w w4 r b1 b2 g gf gl na nb a fs nb (List.replicate (na + 1) 0) := by
  obtain ⟨m1, m2, m3, m4, m5, m6⟩ := hm
  have s2 := h2.size
  have s3 := hr.2.2.size
  have sx := m6.size
  have l1 := m1.lt (g := gf) rfl
  have l2 := m2.lt (g := gl) rfl
  have e1 : flS fs nb = List.replicate nb 0 := by rw [flS, ← hfs, List.drop_length]; simp
  have e2 : llS fs nb = List.replicate nb 0 := by rw [llS, ← hfs, List.drop_length]; simp [lngOf]
  refine ⟨⟨(hr.2.1.ext m6).ext hb, hch, ?_, ?_, ⟨m3, by omega, by omega, by omega, by omega⟩, ⟨by omega, by omega, by omega, by omega, by omega, by omega⟩, ext_under (ext_under hr.2.2 (Nat.le_refl _) m6) (Nat.le_refl _) hb⟩, ?_, ?_⟩
  · rw [e1]; exact m1.ext hb
  · rw [e2]; exact m2.ext hb
  · rw [← hfs, List.drop_length]; exact Fen.zero na
  · intro x hx
    have := List.eq_of_mem_replicate hx
    omega
/-- what the second loop has -/
structure StS (w wr : World) (r b1 b2 g gf gl na nb : Nat) (a b : List Fr) (fs : List (Option Nat)) (best : List Nat) (j need : Nat) (last : Int) (acc : List (Nat × Nat)) (v : Value) : Prop where
  st : StIn w wr r b1 b2 g gf gl na nb a best (flS fs 0) (llS fs 0)
  own : OwnA wr 87 2 encP v acc
  vf : ∀ g, v.ownBlock = some g → w.heap.size ≤ g
  eq : stayL a b = acc ++ selL ((fs.zip (lngOf fs)).drop j) need last j
  len : acc.length ≤ j
theorem lng_at {fs : List (Option Nat)} {j : Nat} (h : j < fs.length) : ∃ g, (lngOf fs)[j]? = some g ∧ g ≤ fs.length := by
  have hl := lngOf_len fs
  exact ⟨_, List.getElem?_eq_getElem (by omega), lng_le fs _ (List.getElem_mem _)⟩
theorem flS_zero (fs : List (Option Nat)) {j : Nat} {o : Option Nat} (h : fs[j]? = some o) : (flS fs 0)[j]? = some (o.getD 0) := by simp [flS, h]
theorem llS_zero (fs : List (Option Nat)) : llS fs 0 = lngOf fs := by simp [llS]
theorem StS.skip {w wr : World} {r b1 b2 g gf gl na nb : Nat} {a b : List Fr} {fs : List (Option Nat)} {best : List Nat} {j need : Nat} {last : Int} {acc : List (Nat × Nat)} {v : Value} (h : StS w wr r b1 b2 g gf gl na nb a b fs best j need last acc v) {o : Option Nat} {gg : Nat} (hx : fs[j]? = some o) (hg : (lngOf fs)[j]? = some gg)
    (hc : ∀ i, o = some i → ¬ (0 < need ∧ gg = need ∧ last < (i : Int))) : StS w wr r b1 b2 g gf gl na nb a b fs best (j + 1) need last acc v :=
  ⟨h.st, h.own, h.vf, by rw [h.eq, zip_drop hx hg, selL_no hc], by have := h.len; omega⟩
theorem StS.pick {w wr w9 : World} {r b1 b2 g gf gl na nb i : Nat} {a b : List Fr} {fs : List (Option Nat)} {best : List Nat} {j need : Nat} {last : Int} {acc : List (Nat × Nat)} {v v' : Value} (h : StS w wr r b1 b2 g gf gl na nb a b fs best j need last acc v) {gg : Nat} (hx : fs[j]? = some (some i)) (hg : (lngOf fs)[j]? = some gg)
    (hc : 0 < need ∧ gg = need ∧ last < (i : Int)) {o : Obj} (hown : OwnA w9 87 2 encP v' (acc ++ [(i, j)])) (hch : Chg (fun k => v.ownBlock = some k) (wr.alloc o) w9) (hat : v'.ownBlock = v.ownBlock ∨ v'.ownBlock = some (wr.alloc o).heap.size) : StS w w9 r b1 b2 g gf gl na nb a b fs best (j + 1) (need - 1) (i : Int) (acc ++ [(i, j)]) v' := by
  have h1 := h.st.ext (EdF.below_a wr o)
  refine ⟨h1.pair (h.own.ext (EdF.below_a wr o)) hch h.vf, hown, fun b hb => ?_, by rw [h.eq, zip_drop hx hg, selL_yes hc]; simp, by have := h.len; simp; omega⟩
  rcases hat with e | e
  · exact h.vf b (e ▸ hb)
  · rw [e] at hb
    injection hb with hb
    have := h.st.be.size
    simp at hb
    omega
set_option maxRecDepth 100000 in
set_option maxHeartbeats 8000000 in
theorem stay_yes (a b : List Fr) (A B : Option Addr) (na ca nb cb : Nat) (w : World) (ha : FrSl w w.heap.size A a) (hwa : FrsWf a) (hna : Hid (na = a.length)) (hb : FrSl w w.heap.size B b) (hwb : FrsWf b) (hnb : Hid (nb = b.length)) (h0 : chk a = 0) (h1 : chk b = 0) :
    Calls Try.prog 53 #[.slice A na ca, .slice B nb cb] w (RetSt w (stayE a b)) := by
  have hE : Hid (stayE a b = (stayL a b, 0)) := by rw [Hid, stayE, if_neg (by simp [h0, h1])]
  have HC := Lib.hid (FCheck.check_any a A na ca w ha hwa hna)
  have HD := fun W (hW : Below w.heap.size w W) => Lib.hid (FCheck.check_any b B nb cb W ((Sl.below hb hW).more hW.size) hwb hnb)
  have hna2 : na ≤ 2048 := by rw [hna.out]; exact (FCheck.chk_zero h0).2.2
  have hnb2 : nb ≤ 2048 := by rw [hnb.out]; exact (FCheck.chk_zero h1).2.2
  have HP := fun W (hW : Below w.heap.size w W) => Lib.hid (places_any a A na ca W ((Sl.below ha hW).more hW.size) (keys_of_chk h0) hna (by unfold maxLen; omega))
  have HQ := fun W => Lib.hid (chains_any na hna2 W)
  have HM := fun W => Lib.hid (run_mk nb (by omega) W)
  simp only [h0, h1] at HC HD
  clear h0 h1
  have HA := Lib.hid ha
  have HBs := Lib.hid hb
  clear ha hb
  go_enter Try.func53, Try.ntmps53
  go_wp2_with fail
  refine (HC.out).mono ?_; rintro e w1 ⟨rfl, hb1⟩
  have HB := Lib.hid hb1
  clear hb1
  go_wp2_with fail
  refine ((HD _ HB.out).out).mono ?_; rintro e w2 ⟨rfl, hb2⟩
  have HB2 := Lib.hid (ext_under HB.out (Nat.le_refl _) hb2)
  clear hb2
  go_wp2_with fail
  refine ((HP _ HB2.out).out).mono ?_; rintro e w3 ⟨r, rfl, hr, hkm, hb3⟩
  have HK := Lib.hid (And.intro hr (And.intro hkm (ext_under HB2.out (Nat.le_refl _) hb3)))
  clear hr hkm hb3 HP HC HD HB
  go_upto_region 4 with fail
  go_cut [7, 8] (fun s7 s8 wx => ∃ gf gl, s7 = .slice (some ⟨gf, 0, none⟩) nb nb ∧ s8 = .slice (some ⟨gl, 0, none⟩) nb nb ∧ Hid (Made2 w3 wx nb gf gl))
  case first =>
    have hmk := fun W => (HM W).out
    go_region
    all_goals (
      go_wp2
      go_meet
      first
      | exact ⟨w3.heap.size, w3.heap.size + 1, rfl, rfl, made2 w3 nb (by omega)⟩
      | exact ⟨w3.heap.size + 1, w3.heap.size, rfl, rfl, made2' w3 nb (by omega)⟩)
  case rest =>
    obtain ⟨gf, gl, rfl, rfl, HM2⟩ := hcut
    clear HM
    go_wp2_with fail
    refine ((HQ _).out).mono ?_; rintro e w4 ⟨b1, b2, g, rfl, hch, hg1, hg2, hg3, hb4⟩
    obtain ⟨fs, hfs⟩ : ∃ fs, Hid (b.map (fromL a) = fs) := ⟨_, rfl⟩
    have hfl : Hid (fs.length = nb) := by rw [Hid, ← hfs.out, List.length_map, hnb.out]
    have HS := Lib.hid (StR.start HK.out HB2.out HM2.out hch hg1 hg2 hg3 hb4 hfl.out)
    clear hch hg1 hg2 hg3 hb4 HQ HM2 HK HB2
    have w0 : IntKind.i64.wrap ((nb : Int) - 1) = (nb : Int) - 1 := IntWalk.i64_in _ (by omega)
    have hN0 : Hid (needOf (fs.drop nb) = 0) := by rw [Hid, ← hfl.out, List.drop_length]; rfl
    go_wp2
    go_loopg [10, 11] nb (fun gh v10 v11 wr => ∃ (m nd : Nat) (best : List Nat), m ≤ gh ∧ m ≤ nb ∧ v10 = .int .i64 (nd : Int) ∧ v11 = .int .i64 ((m : Int) - 1) ∧ Hid (needOf (fs.drop m) = nd) ∧ Hid (StR w wr r b1 b2 g gf gl na nb a fs m best))
    case atStart => exact ⟨nb, 0, _, by omega, by omega, rfl, rfl, hN0, HS⟩
    case round =>
      obtain ⟨m, nd, best, hg, hmb, rfl, hv11, hnd, HR⟩ := hrel
      have hndb := need_le fs m
      rw [hnd.out, hfl.out] at hndb
      rcases m with _ | j
      · rw [show ((0 : Nat) : Int) - 1 = -1 from rfl] at hv11
        subst hv11
        obtain ⟨p0, hp, hpz, hpz1, hpz2⟩ := info_parts pairInfo
        go_wp2_with (at_make; refine wpList_make_own _ rfl _ _ 80 rfl w.heap.size 87 p0 _ 2 Try.underlying80 hp hpz hpz1 _ _ _ nd rfl rfl (by rfl) (by rw [hpz2]; omega) (by unfold maxLen; omega) HR.out.st.be.size ?_; intro w6 hmk hgr; have HM6 : Hid (OwnA w6 87 2 encP (.slice (some ⟨wr.heap.size, 0, none⟩) 0 nd) ([] : List (Nat × Nat)) ∧ Below wr.heap.size wr w6) := ⟨OwnA.of_own (base := w.heap.size) hmk, (Below.refl _ _).grown hgr (Nat.le_refl _) (by simp)⟩; clear hmk hgr)
        have HS2 : Hid (StS w w6 r b1 b2 g gf gl na nb a b fs best 0 nd (-1) [] (.slice (some ⟨wr.heap.size, 0, none⟩) 0 nd)) := by
          refine ⟨HR.out.st.ext HM6.out.2, HM6.out.1, fun b hb => ?_, ?_, Nat.le_refl _⟩
          · simp [Value.ownBlock] at hb
            have := HR.out.st.be.size
            omega
          · have h := hnd.out
            rw [List.drop_zero] at h
            rw [List.nil_append, List.drop_zero, stayL, hfs.out, h]
        clear HR HM6 hnd
        go_loopg [10, 14, 15, 91] nb (fun gh v10 v14 v15 v91 wr => ∃ (j need : Nat) (last : Int) (acc : List (Nat × Nat)) (A2 : Option Addr) (n2 c2 : Nat), nb ≤ j + gh ∧ j ≤ nb ∧ need ≤ nb ∧ v10 = .int .i64 (need : Int) ∧ v14 = .slice A2 n2 c2 ∧ v15 = .int .i64 last ∧ v91 = .int .i64 (j : Int) ∧ Hid (StS w wr r b1 b2 g gf gl na nb a b fs best j need last acc (.slice A2 n2 c2)))
        case atStart => exact ⟨0, nd, -1, [], _, _, _, by omega, by omega, hndb, rfl, rfl, rfl, rfl, HS2⟩
        case round =>
          clear HS2
          obtain ⟨j, need, last, acc, A2, n2, c2, hg, hjn, hneed, rfl, rfl, rfl, rfl, HS2⟩ := hrel
          by_cases hlt : j < nb
          · have hjl : j < fs.length := by rw [hfl.out]; exact hlt
            obtain ⟨o, hx⟩ : ∃ o, fs[j]? = some o := ⟨_, List.getElem?_eq_getElem hjl⟩
            obtain ⟨gg, hgg, hgb⟩ := lng_at hjl
            rw [hfl.out] at hgb
            have k1 := K.cell HS2.out.st.fr (flS_zero fs hx)
            have k2 := K.cell HS2.out.st.lo (by rw [llS_zero]; exact hgg)
            have c1' : (0 : Int) ≤ (j : Int) := Int.natCast_nonneg _
            have c2' : (j : Int) < (nb : Int) := by omega
            have hnn : o = none → gg = 0 := fun e => by
              rw [e] at hx
              have := lng_none hx
              rw [hgg] at this
              injection this
            have HX := Lib.hid (And.intro hx hgg)
            clear hx hgg hjl
            have hno : ¬ (∃ i, o = some i ∧ (0 < need ∧ gg = need ∧ last < (i : Int))) → Hid (StS w wr r b1 b2 g gf gl na nb a b fs best (j + 1) need last acc (.slice A2 n2 c2)) := fun h => HS2.out.skip HX.out.1 HX.out.2 (fun i e hc => h ⟨i, e, hc⟩)
            by_cases hn : 0 < need
            · have n1 : decide (0 < need) = true := decide_eq_true hn
              have n2' : (0 : Int) < (need : Int) := by omega
              by_cases he : gg = need
              · subst he
                cases o with
                | none => exact absurd (hnn rfl) (by omega)
                | some i =>
                  simp only [Option.getD_some] at k1
                  clear hnn
                  by_cases hl : last < (i : Int)
                  · have hno := hno
                    clear hno
                    have HO : Hid (OwnA (wr.alloc (.cells #[.int .i64 (i : Int), .int .i64 (j : Int)] 87)) 87 2 encP (.slice A2 n2 c2) acc) := HS2.out.own.ext (EdF.below_a _ _)
                    have HL : Hid (Sl (wr.alloc (.cells #[.int .i64 (i : Int), .int .i64 (j : Int)] 87)) (wr.alloc (.cells #[.int .i64 (i : Int), .int .i64 (j : Int)] 87)).heap.size 2 encP (some ⟨wr.heap.size, 0, none⟩) [(i, j)]) := p_lit wr (i, j)
                    have hal := HS2.out.len
                    have a1 : Hid (acc.length + [(i, j)].length ≤ maxLen) := by rw [Hid]; simp [maxLen]; omega
                    have a2 : Hid ((acc.length + [(i, j)].length) * 16 ≤ 140737488355328) := by rw [Hid]; simp; omega
                    have w8 : IntKind.i64.wrap ((gg : Int) - 1) = ((gg - 1 : Nat) : Int) := by rw [IntWalk.i64_in _ (by omega)]; omega
                    have Hcc := Lib.hid (And.intro hn (And.intro (rfl : gg = gg) hl))
                    go_wp2_with (at_builtin; refine wpList_append_a _ rfl _ _ _ rfl 87 p0 _ 2 16 Try.underlying80 hp hpz hpz1 hpz2 rfl (by decide) encP_len encP_one (.slice A2 n2 c2) acc (by rfl) HO.out _ (some ⟨wr.heap.size, 0, none⟩) [(i, j)] 1 1 (by rfl) rfl HL.out a1.out a2.out ?_; intro v' w9 hown hchg hat; obtain ⟨A9, n9, c9, rfl, _, _, _, _⟩ := hown.form; have HP := Lib.hid (HS2.out.pick HX.out.1 HX.out.2 Hcc.out hown hchg hat); have m2 : w9.cell? ⟨gf, j, none⟩ = some (.int .i64 (i : Int)) := K.cell HP.out.st.fr (flS_zero fs HX.out.1); clear hown hchg hat)
                    go_roundg (gk - 1)
                    case measure => omega
                    case rel => exact ⟨j + 1, gg - 1, (i : Int), acc ++ [(i, j)], A9, n9, c9, by omega, by omega, by omega, rfl, rfl, rfl, by go_num, HP.out⟩
                  · have HN := hno (by rintro ⟨i', e, _, _, h⟩; injection e with e; subst e; exact hl h)
                    clear hno
                    go_wp2
                    go_roundg (gk - 1)
                    case measure => omega
                    case rel => exact ⟨j + 1, gg, last, acc, A2, n2, c2, by omega, by omega, by omega, rfl, rfl, rfl, by go_num, HN⟩
              · have he' : ((gg : Int) == (need : Int)) = false := by simp; omega
                have he'' : (gg == need) = false := by simpa using he
                have HN := hno (by rintro ⟨i', _, _, h, _⟩; exact he h)
                clear hno hnn
                generalize o.getD 0 = y at *
                go_wp2
                go_roundg (gk - 1)
                case measure => omega
                case rel => exact ⟨j + 1, need, last, acc, A2, n2, c2, by omega, by omega, by omega, rfl, rfl, rfl, by go_num, HN⟩
            · have hz : need = 0 := by omega
              have HN := hno (by rintro ⟨i', _, h, _⟩; exact hn h)
              clear hno hnn
              subst hz
              go_wp2
              go_roundg (gk - 1)
              case measure => omega
              case rel => exact ⟨j + 1, 0, last, acc, A2, n2, c2, by omega, by omega, by omega, rfl, rfl, rfl, by go_num, HN⟩
          · have HF : Hid (stayL a b = acc) := by
              have h := HS2.out.eq
              rw [List.drop_of_length_le (by rw [List.length_zip, lngOf_len, hfl.out]; omega), selL, List.append_nil] at h
              exact h
            go_wp2
            refine bodyPost_ret (by simp [results, Try.results53, go_sem]; rfl) rfl ?_
            rw [hE.out, HF.out]
            exact ⟨_, rfl, HS2.out.own, HS2.out.vf, HS2.out.st.be⟩
      · rw [show ((j + 1 : Nat) : Int) - 1 = (j : Int) from by omega] at hv11
        subst hv11
        have hjl : j < b.length := by rw [← hnb.out]; omega
        have hx : b[j]? = some b[j] := List.getElem?_eq_getElem hjl
        have HX : Hid (fs[j]? = some (fromL a b[j])) := by rw [Hid, ← hfs.out]; exact froms_at hx
        have hbe := HR.out.st.be
        obtain ⟨bb, off, rfl, hbb, c0, c1, c2, c3, c4, c5, c6, c7⟩ := FrSl.at_ ((Sl.below HBs.out hbe).more hbe.size) hx
        have c1' : (0 : Int) ≤ (j : Int) := Int.natCast_nonneg _
        have c2' : (j : Int) < (nb : Int) := by omega
        have w1 : IntKind.i64.wrap ((j : Int) - 1) = (j : Int) - 1 := IntWalk.i64_in _ (by omega)
        have Hq := Lib.hid hx
        clear hx hbe
        generalize b[j] = q at *
        cases hk : keyAt a q with
        | none =>
          have HLK : Hid (∀ W', Below wr.heap.size wr W' → (Instr.lookup 124 (.map (some r)) (.agg #[.int .i64 q.node, .int .i64 q.part]) true).run Try.prog W' = .ok (.tuple #[.int .i64 0, .bool false]) W') := fun W' hW => by
            have h := run_lookup_keyD W' (HR.out.st.km.ext hW) q.node q.part
            rw [keyAt_places, hk] at h
            exact h
          have hX : Hid (fs[j]? = some none) := by rw [Hid, HX.out, fromL_none hk]
          have HN : Hid (needOf (fs.drop j) = nd) := by rw [Hid, needOf_none hX.out]; exact hnd.out
          clear hk
          go_wp2_with fail
          refine Uni.region (last := 18) (S := fun w' => Below wr.heap.size wr w') (by kernel_rfl) ((Below.refl _ _).drew) ?_
          try simp only [Act.put, List.setIfInBounds_toArray, List.set_cons_zero, List.set_cons_succ]
          (refine Uni.WU.take (i := 0) (oi := { dst := some 44, op := _, type := _, pos := _, after := _, guard := _ }) (v := ?_) rfl (by kernel_rfl) (by kernel_rfl) (by decide) (by kernel_rfl) (by kernel_rfl) (Uni.Uni.run (by kernel_rfl) (by intro W' hS'; obtain ⟨hq1, hq2⟩ := EdC.bcellD hS'; go_simp; try with_reducible rfl)) ?_; (try simp only [Act.put, List.setIfInBounds_toArray, List.set_cons_zero, List.set_cons_succ]))
          (refine Uni.WU.take (i := 1) (oi := { dst := some 45, op := _, type := _, pos := _, after := _, guard := _ }) (v := ?_) rfl (by kernel_rfl) (by kernel_rfl) (by decide) (by kernel_rfl) (by kernel_rfl) (Uni.Uni.run (by kernel_rfl) (by intro W' hS'; obtain ⟨hq1, hq2⟩ := EdC.bcellD hS'; go_simp; try with_reducible rfl)) ?_; (try simp only [Act.put, List.setIfInBounds_toArray, List.set_cons_zero, List.set_cons_succ]))
          (refine Uni.WU.take (i := 2) (oi := { dst := some 46, op := _, type := _, pos := _, after := _, guard := _ }) (v := ?_) rfl (by kernel_rfl) (by kernel_rfl) (by decide) (by kernel_rfl) (by kernel_rfl) (Uni.Uni.run (by kernel_rfl) (by intro W' hS'; obtain ⟨hq1, hq2⟩ := EdC.bcellD hS'; go_simp; try with_reducible rfl)) ?_; (try simp only [Act.put, List.setIfInBounds_toArray, List.set_cons_zero, List.set_cons_succ]))
          (refine Uni.WU.take (i := 3) (oi := { dst := some 47, op := _, type := _, pos := _, after := _, guard := _ }) (v := ?_) rfl (by kernel_rfl) (by kernel_rfl) (by decide) (by kernel_rfl) (by kernel_rfl) (Uni.Uni.run (by kernel_rfl) (by intro W' hS'; obtain ⟨hq1, hq2⟩ := EdC.bcellD hS'; go_simp; try with_reducible rfl)) ?_; (try simp only [Act.put, List.setIfInBounds_toArray, List.set_cons_zero, List.set_cons_succ]))
          (refine Uni.WU.take (i := 4) (oi := { dst := some 48, op := _, type := _, pos := _, after := _, guard := _ }) (v := ?_) rfl (by kernel_rfl) (by kernel_rfl) (by decide) (by kernel_rfl) (by kernel_rfl) (Uni.Uni.run (by kernel_rfl) (by intro W' hS'; obtain ⟨hq1, hq2⟩ := EdC.bcellD hS'; go_simp; try with_reducible rfl)) ?_; (try simp only [Act.put, List.setIfInBounds_toArray, List.set_cons_zero, List.set_cons_succ]))
          (refine Uni.WU.take (i := 5) (oi := { dst := some 49, op := _, type := _, pos := _, after := _, guard := _ }) (v := ?_) rfl (by kernel_rfl) (by kernel_rfl) (by decide) (by kernel_rfl) (by kernel_rfl) (Uni.Uni.run (by kernel_rfl) (by intro W' hS'; obtain ⟨hq1, hq2⟩ := EdC.bcellD hS'; go_simp; try with_reducible rfl)) ?_; (try simp only [Act.put, List.setIfInBounds_toArray, List.set_cons_zero, List.set_cons_succ]))
          (refine Uni.WU.take (i := 6) (oi := { dst := some 50, op := _, type := _, pos := _, after := _, guard := _ }) (v := ?_) rfl (by kernel_rfl) (by kernel_rfl) (by decide) (by kernel_rfl) (by kernel_rfl) (Uni.Uni.run (by kernel_rfl) (by intro W' hS'; obtain ⟨hq1, hq2⟩ := EdC.bcellD hS'; go_simp; try with_reducible rfl)) ?_; (try simp only [Act.put, List.setIfInBounds_toArray, List.set_cons_zero, List.set_cons_succ]))
          (refine Uni.WU.take (i := 7) (oi := { dst := some 51, op := _, type := _, pos := _, after := _, guard := _ }) (v := ?_) rfl (by kernel_rfl) (by kernel_rfl) (by decide) (by kernel_rfl) (by kernel_rfl) (Uni.Uni.run (by kernel_rfl) (by intro W' hS'; obtain ⟨hq1, hq2⟩ := EdC.bcellD hS'; go_simp; try with_reducible rfl)) ?_; (try simp only [Act.put, List.setIfInBounds_toArray, List.set_cons_zero, List.set_cons_succ]))
          (refine Uni.WU.take (i := 8) (oi := { dst := some 52, op := _, type := _, pos := _, after := _, guard := _ }) (v := ?_) rfl (by kernel_rfl) (by kernel_rfl) (by decide) (by kernel_rfl) (by kernel_rfl) (Uni.Uni.run (by kernel_rfl) (by intro W' hS'; obtain ⟨hq1, hq2⟩ := EdC.bcellD hS'; go_simp; try with_reducible rfl)) ?_; (try simp only [Act.put, List.setIfInBounds_toArray, List.set_cons_zero, List.set_cons_succ]))
          (refine Uni.WU.take (i := 9) (oi := { dst := some 53, op := _, type := _, pos := _, after := _, guard := _ }) (v := ?_) rfl (by kernel_rfl) (by kernel_rfl) (by decide) (by kernel_rfl) (by kernel_rfl) (Uni.Uni.run (by kernel_rfl) (by intro W' hS'; obtain ⟨hq1, hq2⟩ := EdC.bcellD hS'; go_simp; try with_reducible rfl)) ?_; (try simp only [Act.put, List.setIfInBounds_toArray, List.set_cons_zero, List.set_cons_succ]))
          (refine Uni.WU.take (i := 10) (oi := { dst := some 54, op := _, type := _, pos := _, after := _, guard := _ }) (v := ?_) rfl (by kernel_rfl) (by kernel_rfl) (by decide) (by kernel_rfl) (by kernel_rfl) (Uni.Uni.run (by kernel_rfl) (by intro W' hS'; obtain ⟨hq1, hq2⟩ := EdC.bcellD hS'; go_simp; try with_reducible rfl)) ?_; (try simp only [Act.put, List.setIfInBounds_toArray, List.set_cons_zero, List.set_cons_succ]))
          (refine Uni.WU.take (i := 11) (oi := { dst := some 55, op := _, type := _, pos := _, after := _, guard := _ }) (v := ?_) rfl (by kernel_rfl) (by kernel_rfl) (by decide) (by kernel_rfl) (by kernel_rfl) (Uni.Uni.run (by kernel_rfl) (by intro W' hS'; obtain ⟨hq1, hq2⟩ := EdC.bcellD hS'; go_simp; try with_reducible rfl)) ?_; (try simp only [Act.put, List.setIfInBounds_toArray, List.set_cons_zero, List.set_cons_succ]))
          (refine Uni.WU.take (i := 12) (oi := { dst := some 56, op := _, type := _, pos := _, after := _, guard := _ }) (v := ?_) rfl (by kernel_rfl) (by kernel_rfl) (by decide) (by kernel_rfl) (by kernel_rfl) (Uni.Uni.run (by kernel_rfl) (by intro W' hS'; have hl := HLK.out W' hS'; go_simp; try with_reducible rfl)) ?_; (try simp only [Act.put, List.setIfInBounds_toArray, List.set_cons_zero, List.set_cons_succ]))
          (refine Uni.WU.take (i := 13) (oi := { dst := some 43, op := _, type := _, pos := _, after := _, guard := _ }) (v := ?_) rfl (by kernel_rfl) (by kernel_rfl) (by decide) (by kernel_rfl) (by kernel_rfl) (Uni.Uni.run (by kernel_rfl) (by intro W' hS'; obtain ⟨hq1, hq2⟩ := EdC.bcellD hS'; go_simp; try with_reducible rfl)) ?_; (try simp only [Act.put, List.setIfInBounds_toArray, List.set_cons_zero, List.set_cons_succ]))
          (refine Uni.WU.take (i := 14) (oi := { dst := some 57, op := _, type := _, pos := _, after := _, guard := _ }) (v := ?_) rfl (by kernel_rfl) (by kernel_rfl) (by decide) (by kernel_rfl) (by kernel_rfl) (Uni.Uni.run (by kernel_rfl) (by intro W' hS'; obtain ⟨hq1, hq2⟩ := EdC.bcellD hS'; go_simp; try with_reducible rfl)) ?_; (try simp only [Act.put, List.setIfInBounds_toArray, List.set_cons_zero, List.set_cons_succ]))
          (refine Uni.WU.take (i := 15) (oi := { dst := some 58, op := _, type := _, pos := _, after := _, guard := _ }) (v := ?_) rfl (by kernel_rfl) (by kernel_rfl) (by decide) (by kernel_rfl) (by kernel_rfl) (Uni.Uni.run (by kernel_rfl) (by intro W' hS'; obtain ⟨hq1, hq2⟩ := EdC.bcellD hS'; go_simp; try with_reducible rfl)) ?_; (try simp only [Act.put, List.setIfInBounds_toArray, List.set_cons_zero, List.set_cons_succ]))
          (refine Uni.WU.take (i := 16) (oi := { dst := some 12, op := _, type := _, pos := _, after := _, guard := _ }) (v := ?_) rfl (by kernel_rfl) (by kernel_rfl) (by decide) (by kernel_rfl) (by kernel_rfl) (Uni.Uni.run (by kernel_rfl) (by intro W' hS'; obtain ⟨hq1, hq2⟩ := EdC.bcellD hS'; go_simp; try with_reducible rfl)) ?_; (try simp only [Act.put, List.setIfInBounds_toArray, List.set_cons_zero, List.set_cons_succ]))
          (refine Uni.WU.take (i := 17) (oi := { dst := some 13, op := _, type := _, pos := _, after := _, guard := _ }) (v := ?_) rfl (by kernel_rfl) (by kernel_rfl) (by decide) (by kernel_rfl) (by kernel_rfl) (Uni.Uni.run (by kernel_rfl) (by intro W' hS'; obtain ⟨hq1, hq2⟩ := EdC.bcellD hS'; go_simp; try with_reducible rfl)) ?_; (try simp only [Act.put, List.setIfInBounds_toArray, List.set_cons_zero, List.set_cons_succ]))
          refine Uni.WU.done (by kernel_rfl) (fun w5 hB5 => ?_) _
          have HR5 := Lib.hid (HR.out.ext hB5)
          clear hB5 c0 c1 c2 c3 c4 c5 c6 c7 HLK
          go_wp2_with fail
          refine Uni.region (last := 12) (S := fun w' => Below w5.heap.size w5 w') (by kernel_rfl) ((Below.refl _ _).drew) ?_
          try simp only [Act.put, List.setIfInBounds_toArray, List.set_cons_zero, List.set_cons_succ]
          (refine Uni.WU.take (i := 0) (oi := { dst := some 59, op := _, type := _, pos := _, after := _, guard := _ }) (v := ?_) rfl (by kernel_rfl) (by kernel_rfl) (by decide) (by kernel_rfl) (by kernel_rfl) (Uni.Uni.run (by kernel_rfl) (by intro W' hS'; obtain ⟨hq1, hq2⟩ := EdC.bcellD hS'; go_simp; try with_reducible rfl)) ?_; (try simp only [Act.put, List.setIfInBounds_toArray, List.set_cons_zero, List.set_cons_succ]))
          (refine Uni.WU.take (i := 1) (oi := { dst := some 60, op := _, type := _, pos := _, after := _, guard := _ }) (v := ?_) rfl (by kernel_rfl) (by kernel_rfl) (by decide) (by kernel_rfl) (by kernel_rfl) (Uni.Uni.run (by kernel_rfl) (by intro W' hS'; obtain ⟨hq1, hq2⟩ := EdC.bcellD hS'; go_simp; try with_reducible rfl)) ?_; (try simp only [Act.put, List.setIfInBounds_toArray, List.set_cons_zero, List.set_cons_succ]))
          (refine Uni.WU.take (i := 2) (oi := { dst := some 61, op := _, type := _, pos := _, after := _, guard := _ }) (v := undef) rfl (by kernel_rfl) (by kernel_rfl) (by decide) (by kernel_rfl) (by kernel_rfl) (Uni.Uni.skip (by kernel_rfl)) ?_; (try simp only [Act.put, List.setIfInBounds_toArray, List.set_cons_zero, List.set_cons_succ]))
          (refine Uni.WU.take (i := 3) (oi := { dst := some 62, op := _, type := _, pos := _, after := _, guard := _ }) (v := undef) rfl (by kernel_rfl) (by kernel_rfl) (by decide) (by kernel_rfl) (by kernel_rfl) (Uni.Uni.skip (by kernel_rfl)) ?_; (try simp only [Act.put, List.setIfInBounds_toArray, List.set_cons_zero, List.set_cons_succ]))
          (refine Uni.WU.take (i := 4) (oi := { dst := some 63, op := _, type := _, pos := _, after := _, guard := _ }) (v := undef) rfl (by kernel_rfl) (by kernel_rfl) (by decide) (by kernel_rfl) (by kernel_rfl) (Uni.Uni.skip (by kernel_rfl)) ?_; (try simp only [Act.put, List.setIfInBounds_toArray, List.set_cons_zero, List.set_cons_succ]))
          (refine Uni.WU.take (i := 5) (oi := { dst := some 64, op := _, type := _, pos := _, after := _, guard := _ }) (v := undef) rfl (by kernel_rfl) (by kernel_rfl) (by decide) (by kernel_rfl) (by kernel_rfl) (Uni.Uni.skip (by kernel_rfl)) ?_; (try simp only [Act.put, List.setIfInBounds_toArray, List.set_cons_zero, List.set_cons_succ]))
          (refine Uni.WU.take (i := 6) (oi := { dst := some 65, op := _, type := _, pos := _, after := _, guard := _ }) (v := undef) rfl (by kernel_rfl) (by kernel_rfl) (by decide) (by kernel_rfl) (by kernel_rfl) (Uni.Uni.skip (by kernel_rfl)) ?_; (try simp only [Act.put, List.setIfInBounds_toArray, List.set_cons_zero, List.set_cons_succ]))
          (refine Uni.WU.take (i := 7) (oi := { dst := some 66, op := _, type := _, pos := _, after := _, guard := _ }) (v := undef) rfl (by kernel_rfl) (by kernel_rfl) (by decide) (by kernel_rfl) (by kernel_rfl) (Uni.Uni.skip (by kernel_rfl)) ?_; (try simp only [Act.put, List.setIfInBounds_toArray, List.set_cons_zero, List.set_cons_succ]))
          (refine Uni.WU.take (i := 8) (oi := { dst := some 67, op := _, type := _, pos := _, after := _, guard := _ }) (v := undef) rfl (by kernel_rfl) (by kernel_rfl) (by decide) (by kernel_rfl) (by kernel_rfl) (Uni.Uni.skip (by kernel_rfl)) ?_; (try simp only [Act.put, List.setIfInBounds_toArray, List.set_cons_zero, List.set_cons_succ]))
          (refine Uni.WU.take (i := 9) (oi := { dst := some 68, op := _, type := _, pos := _, after := _, guard := _ }) (v := undef) rfl (by kernel_rfl) (by kernel_rfl) (by decide) (by kernel_rfl) (by kernel_rfl) (Uni.Uni.skip (by kernel_rfl)) ?_; (try simp only [Act.put, List.setIfInBounds_toArray, List.set_cons_zero, List.set_cons_succ]))
          (refine Uni.WU.take (i := 10) (oi := { dst := some 69, op := _, type := _, pos := _, after := _, guard := _ }) (v := undef) rfl (by kernel_rfl) (by kernel_rfl) (by decide) (by kernel_rfl) (by kernel_rfl) (Uni.Uni.skip (by kernel_rfl)) ?_; (try simp only [Act.put, List.setIfInBounds_toArray, List.set_cons_zero, List.set_cons_succ]))
          (refine Uni.WU.take (i := 11) (oi := { dst := some 70, op := _, type := _, pos := _, after := _, guard := _ }) (v := ?_) rfl (by kernel_rfl) (by kernel_rfl) (by decide) (by kernel_rfl) (by kernel_rfl) (Uni.Uni.run (by kernel_rfl) (by intro W' hS'; obtain ⟨hq1, hq2⟩ := EdC.bcellD hS'; go_simp; try with_reducible rfl)) ?_; (try simp only [Act.put, List.setIfInBounds_toArray, List.set_cons_zero, List.set_cons_succ]))
          refine Uni.WU.done (by kernel_rfl) (fun w6 hB6 => ?_) _
          have HR6 := Lib.hid ((HR5.out.ext hB6).none hX.out)
          clear hB6
          go_wp2
          go_roundg (gk - 1)
          case measure => omega
          case rel => exact ⟨j, nd, best, by omega, by omega, rfl, rfl, HN, HR6⟩
        | some i =>
          obtain ⟨f, hf, _, _⟩ := keyAt_lt hk
          have hil := (List.getElem?_eq_some_iff.1 hf).1
          have HLK : Hid (∀ W', Below wr.heap.size wr W' → (Instr.lookup 124 (.map (some r)) (.agg #[.int .i64 q.node, .int .i64 q.part]) true).run Try.prog W' = .ok (.tuple #[.int .i64 (i : Int), .bool true]) W') := fun W' hW => by
            have h := run_lookup_keyD W' (HR.out.st.km.ext hW) q.node q.part
            rw [keyAt_places, hk] at h
            exact h
          have hXq : Hid (fromL a q = if canB f q then some i else none) := fromL_at hk hf
          have HF := Lib.hid hf
          have hi1 : (0 : Int) ≤ (i : Int) := Int.natCast_nonneg _
          have hi2 : (i : Int) < (na : Int) := by rw [hna.out]; omega
          have HIl := Lib.hid hil
          clear hk hf hil
          go_wp2_with fail
          refine Uni.region (last := 18) (S := fun w' => Below wr.heap.size wr w') (by kernel_rfl) ((Below.refl _ _).drew) ?_
          try simp only [Act.put, List.setIfInBounds_toArray, List.set_cons_zero, List.set_cons_succ]
          (refine Uni.WU.take (i := 0) (oi := { dst := some 44, op := _, type := _, pos := _, after := _, guard := _ }) (v := ?_) rfl (by kernel_rfl) (by kernel_rfl) (by decide) (by kernel_rfl) (by kernel_rfl) (Uni.Uni.run (by kernel_rfl) (by intro W' hS'; obtain ⟨hq1, hq2⟩ := EdC.bcellD hS'; go_simp; try with_reducible rfl)) ?_; (try simp only [Act.put, List.setIfInBounds_toArray, List.set_cons_zero, List.set_cons_succ]))
          (refine Uni.WU.take (i := 1) (oi := { dst := some 45, op := _, type := _, pos := _, after := _, guard := _ }) (v := ?_) rfl (by kernel_rfl) (by kernel_rfl) (by decide) (by kernel_rfl) (by kernel_rfl) (Uni.Uni.run (by kernel_rfl) (by intro W' hS'; obtain ⟨hq1, hq2⟩ := EdC.bcellD hS'; go_simp; try with_reducible rfl)) ?_; (try simp only [Act.put, List.setIfInBounds_toArray, List.set_cons_zero, List.set_cons_succ]))
          (refine Uni.WU.take (i := 2) (oi := { dst := some 46, op := _, type := _, pos := _, after := _, guard := _ }) (v := ?_) rfl (by kernel_rfl) (by kernel_rfl) (by decide) (by kernel_rfl) (by kernel_rfl) (Uni.Uni.run (by kernel_rfl) (by intro W' hS'; obtain ⟨hq1, hq2⟩ := EdC.bcellD hS'; go_simp; try with_reducible rfl)) ?_; (try simp only [Act.put, List.setIfInBounds_toArray, List.set_cons_zero, List.set_cons_succ]))
          (refine Uni.WU.take (i := 3) (oi := { dst := some 47, op := _, type := _, pos := _, after := _, guard := _ }) (v := ?_) rfl (by kernel_rfl) (by kernel_rfl) (by decide) (by kernel_rfl) (by kernel_rfl) (Uni.Uni.run (by kernel_rfl) (by intro W' hS'; obtain ⟨hq1, hq2⟩ := EdC.bcellD hS'; go_simp; try with_reducible rfl)) ?_; (try simp only [Act.put, List.setIfInBounds_toArray, List.set_cons_zero, List.set_cons_succ]))
          (refine Uni.WU.take (i := 4) (oi := { dst := some 48, op := _, type := _, pos := _, after := _, guard := _ }) (v := ?_) rfl (by kernel_rfl) (by kernel_rfl) (by decide) (by kernel_rfl) (by kernel_rfl) (Uni.Uni.run (by kernel_rfl) (by intro W' hS'; obtain ⟨hq1, hq2⟩ := EdC.bcellD hS'; go_simp; try with_reducible rfl)) ?_; (try simp only [Act.put, List.setIfInBounds_toArray, List.set_cons_zero, List.set_cons_succ]))
          (refine Uni.WU.take (i := 5) (oi := { dst := some 49, op := _, type := _, pos := _, after := _, guard := _ }) (v := ?_) rfl (by kernel_rfl) (by kernel_rfl) (by decide) (by kernel_rfl) (by kernel_rfl) (Uni.Uni.run (by kernel_rfl) (by intro W' hS'; obtain ⟨hq1, hq2⟩ := EdC.bcellD hS'; go_simp; try with_reducible rfl)) ?_; (try simp only [Act.put, List.setIfInBounds_toArray, List.set_cons_zero, List.set_cons_succ]))
          (refine Uni.WU.take (i := 6) (oi := { dst := some 50, op := _, type := _, pos := _, after := _, guard := _ }) (v := ?_) rfl (by kernel_rfl) (by kernel_rfl) (by decide) (by kernel_rfl) (by kernel_rfl) (Uni.Uni.run (by kernel_rfl) (by intro W' hS'; obtain ⟨hq1, hq2⟩ := EdC.bcellD hS'; go_simp; try with_reducible rfl)) ?_; (try simp only [Act.put, List.setIfInBounds_toArray, List.set_cons_zero, List.set_cons_succ]))
          (refine Uni.WU.take (i := 7) (oi := { dst := some 51, op := _, type := _, pos := _, after := _, guard := _ }) (v := ?_) rfl (by kernel_rfl) (by kernel_rfl) (by decide) (by kernel_rfl) (by kernel_rfl) (Uni.Uni.run (by kernel_rfl) (by intro W' hS'; obtain ⟨hq1, hq2⟩ := EdC.bcellD hS'; go_simp; try with_reducible rfl)) ?_; (try simp only [Act.put, List.setIfInBounds_toArray, List.set_cons_zero, List.set_cons_succ]))
          (refine Uni.WU.take (i := 8) (oi := { dst := some 52, op := _, type := _, pos := _, after := _, guard := _ }) (v := ?_) rfl (by kernel_rfl) (by kernel_rfl) (by decide) (by kernel_rfl) (by kernel_rfl) (Uni.Uni.run (by kernel_rfl) (by intro W' hS'; obtain ⟨hq1, hq2⟩ := EdC.bcellD hS'; go_simp; try with_reducible rfl)) ?_; (try simp only [Act.put, List.setIfInBounds_toArray, List.set_cons_zero, List.set_cons_succ]))
          (refine Uni.WU.take (i := 9) (oi := { dst := some 53, op := _, type := _, pos := _, after := _, guard := _ }) (v := ?_) rfl (by kernel_rfl) (by kernel_rfl) (by decide) (by kernel_rfl) (by kernel_rfl) (Uni.Uni.run (by kernel_rfl) (by intro W' hS'; obtain ⟨hq1, hq2⟩ := EdC.bcellD hS'; go_simp; try with_reducible rfl)) ?_; (try simp only [Act.put, List.setIfInBounds_toArray, List.set_cons_zero, List.set_cons_succ]))
          (refine Uni.WU.take (i := 10) (oi := { dst := some 54, op := _, type := _, pos := _, after := _, guard := _ }) (v := ?_) rfl (by kernel_rfl) (by kernel_rfl) (by decide) (by kernel_rfl) (by kernel_rfl) (Uni.Uni.run (by kernel_rfl) (by intro W' hS'; obtain ⟨hq1, hq2⟩ := EdC.bcellD hS'; go_simp; try with_reducible rfl)) ?_; (try simp only [Act.put, List.setIfInBounds_toArray, List.set_cons_zero, List.set_cons_succ]))
          (refine Uni.WU.take (i := 11) (oi := { dst := some 55, op := _, type := _, pos := _, after := _, guard := _ }) (v := ?_) rfl (by kernel_rfl) (by kernel_rfl) (by decide) (by kernel_rfl) (by kernel_rfl) (Uni.Uni.run (by kernel_rfl) (by intro W' hS'; obtain ⟨hq1, hq2⟩ := EdC.bcellD hS'; go_simp; try with_reducible rfl)) ?_; (try simp only [Act.put, List.setIfInBounds_toArray, List.set_cons_zero, List.set_cons_succ]))
          (refine Uni.WU.take (i := 12) (oi := { dst := some 56, op := _, type := _, pos := _, after := _, guard := _ }) (v := ?_) rfl (by kernel_rfl) (by kernel_rfl) (by decide) (by kernel_rfl) (by kernel_rfl) (Uni.Uni.run (by kernel_rfl) (by intro W' hS'; have hl := HLK.out W' hS'; go_simp; try with_reducible rfl)) ?_; (try simp only [Act.put, List.setIfInBounds_toArray, List.set_cons_zero, List.set_cons_succ]))
          (refine Uni.WU.take (i := 13) (oi := { dst := some 43, op := _, type := _, pos := _, after := _, guard := _ }) (v := ?_) rfl (by kernel_rfl) (by kernel_rfl) (by decide) (by kernel_rfl) (by kernel_rfl) (Uni.Uni.run (by kernel_rfl) (by intro W' hS'; obtain ⟨hq1, hq2⟩ := EdC.bcellD hS'; go_simp; try with_reducible rfl)) ?_; (try simp only [Act.put, List.setIfInBounds_toArray, List.set_cons_zero, List.set_cons_succ]))
          (refine Uni.WU.take (i := 14) (oi := { dst := some 57, op := _, type := _, pos := _, after := _, guard := _ }) (v := ?_) rfl (by kernel_rfl) (by kernel_rfl) (by decide) (by kernel_rfl) (by kernel_rfl) (Uni.Uni.run (by kernel_rfl) (by intro W' hS'; obtain ⟨hq1, hq2⟩ := EdC.bcellD hS'; go_simp; try with_reducible rfl)) ?_; (try simp only [Act.put, List.setIfInBounds_toArray, List.set_cons_zero, List.set_cons_succ]))
          (refine Uni.WU.take (i := 15) (oi := { dst := some 58, op := _, type := _, pos := _, after := _, guard := _ }) (v := ?_) rfl (by kernel_rfl) (by kernel_rfl) (by decide) (by kernel_rfl) (by kernel_rfl) (Uni.Uni.run (by kernel_rfl) (by intro W' hS'; obtain ⟨hq1, hq2⟩ := EdC.bcellD hS'; go_simp; try with_reducible rfl)) ?_; (try simp only [Act.put, List.setIfInBounds_toArray, List.set_cons_zero, List.set_cons_succ]))
          (refine Uni.WU.take (i := 16) (oi := { dst := some 12, op := _, type := _, pos := _, after := _, guard := _ }) (v := ?_) rfl (by kernel_rfl) (by kernel_rfl) (by decide) (by kernel_rfl) (by kernel_rfl) (Uni.Uni.run (by kernel_rfl) (by intro W' hS'; obtain ⟨hq1, hq2⟩ := EdC.bcellD hS'; go_simp; try with_reducible rfl)) ?_; (try simp only [Act.put, List.setIfInBounds_toArray, List.set_cons_zero, List.set_cons_succ]))
          (refine Uni.WU.take (i := 17) (oi := { dst := some 13, op := _, type := _, pos := _, after := _, guard := _ }) (v := ?_) rfl (by kernel_rfl) (by kernel_rfl) (by decide) (by kernel_rfl) (by kernel_rfl) (Uni.Uni.run (by kernel_rfl) (by intro W' hS'; obtain ⟨hq1, hq2⟩ := EdC.bcellD hS'; go_simp; try with_reducible rfl)) ?_; (try simp only [Act.put, List.setIfInBounds_toArray, List.set_cons_zero, List.set_cons_succ]))
          refine Uni.WU.done (by kernel_rfl) (fun w5 hB5 => ?_) _
          have HR5 := Lib.hid (HR.out.ext hB5)
          have hbb5 := Nat.lt_of_lt_of_le hbb hB5.size
          obtain ⟨x0, x1, x2, x3, x4, x5, x6, x7⟩ : w5.cell? ⟨bb, off + j * 8, none⟩ = some (.int .i64 q.node) ∧ w5.cell? ⟨bb, off + j * 8 + 1, none⟩ = some (.int .i64 q.part) ∧
              w5.cell? ⟨bb, off + j * 8 + 2, none⟩ = some (.int .i64 q.depth) ∧ w5.cell? ⟨bb, off + j * 8 + 3, none⟩ = some (.int .i64 q.x) ∧ w5.cell? ⟨bb, off + j * 8 + 4, none⟩ = some (.int .i64 q.y) ∧
              w5.cell? ⟨bb, off + j * 8 + 5, none⟩ = some (.int .i64 q.w) ∧ w5.cell? ⟨bb, off + j * 8 + 6, none⟩ = some (.int .i64 q.h) ∧ w5.cell? ⟨bb, off + j * 8 + 7, none⟩ = some (.string q.text) :=
            ⟨(hB5.cell (p := ⟨bb, _, none⟩) hbb).trans c0, (hB5.cell (p := ⟨bb, _, none⟩) hbb).trans c1, (hB5.cell (p := ⟨bb, _, none⟩) hbb).trans c2, (hB5.cell (p := ⟨bb, _, none⟩) hbb).trans c3, (hB5.cell (p := ⟨bb, _, none⟩) hbb).trans c4, (hB5.cell (p := ⟨bb, _, none⟩) hbb).trans c5, (hB5.cell (p := ⟨bb, _, none⟩) hbb).trans c6, (hB5.cell (p := ⟨bb, _, none⟩) hbb).trans c7⟩
          have hbe := HR5.out.st.be
          obtain ⟨ab, aoff, rfl, hab, d0, d1, d2, d3, d4, d5, d6, d7⟩ := FrSl.at_ ((Sl.below HA.out hbe).more hbe.size) HF.out
          have HMy : ∀ W, Hid (Calls Try.prog 85 #[f.agg, q.agg] W fun e w' => e = .returned (.bool (canB f q)) ∧ Below W.heap.size W w') := fun W => may_any f q W
          unfold Fr.agg at HMy
          clear hB5 c0 c1 c2 c3 c4 c5 c6 c7 HLK hbe
          cases hc : canB f q with
          | false =>
            rw [hc] at HMy
            have hX : Hid (fs[j]? = some none) := by rw [Hid, HX.out, hXq.out, hc]; rfl
            have HN : Hid (needOf (fs.drop j) = nd) := by rw [Hid, needOf_none hX.out]; exact hnd.out
            clear hc hXq
            go_wp2_with fail
            refine Uni.region (last := 12) (S := fun w' => Below w5.heap.size w5 w') (by kernel_rfl) ((Below.refl _ _).drew) ?_
            try simp only [Act.put, List.setIfInBounds_toArray, List.set_cons_zero, List.set_cons_succ]
            (refine Uni.WU.take (i := 0) (oi := { dst := some 59, op := _, type := _, pos := _, after := _, guard := _ }) (v := ?_) rfl (by kernel_rfl) (by kernel_rfl) (by decide) (by kernel_rfl) (by kernel_rfl) (Uni.Uni.run (by kernel_rfl) (by intro W' hS'; obtain ⟨hq1, hq2⟩ := EdC.bcellD hS'; go_simp; try with_reducible rfl)) ?_; (try simp only [Act.put, List.setIfInBounds_toArray, List.set_cons_zero, List.set_cons_succ]))
            (refine Uni.WU.take (i := 1) (oi := { dst := some 60, op := _, type := _, pos := _, after := _, guard := _ }) (v := ?_) rfl (by kernel_rfl) (by kernel_rfl) (by decide) (by kernel_rfl) (by kernel_rfl) (Uni.Uni.run (by kernel_rfl) (by intro W' hS'; obtain ⟨hq1, hq2⟩ := EdC.bcellD hS'; go_simp; try with_reducible rfl)) ?_; (try simp only [Act.put, List.setIfInBounds_toArray, List.set_cons_zero, List.set_cons_succ]))
            (refine Uni.WU.take (i := 2) (oi := { dst := some 61, op := _, type := _, pos := _, after := _, guard := _ }) (v := ?_) rfl (by kernel_rfl) (by kernel_rfl) (by decide) (by kernel_rfl) (by kernel_rfl) (Uni.Uni.run (by kernel_rfl) (by intro W' hS'; obtain ⟨hq1, hq2⟩ := EdC.bcellD hS'; go_simp; try with_reducible rfl)) ?_; (try simp only [Act.put, List.setIfInBounds_toArray, List.set_cons_zero, List.set_cons_succ]))
            (refine Uni.WU.take (i := 3) (oi := { dst := some 62, op := _, type := _, pos := _, after := _, guard := _ }) (v := ?_) rfl (by kernel_rfl) (by kernel_rfl) (by decide) (by kernel_rfl) (by kernel_rfl) (Uni.Uni.run (by kernel_rfl) (by intro W' hS'; obtain ⟨hq1, hq2⟩ := EdC.bcellD hS'; go_simp; try with_reducible rfl)) ?_; (try simp only [Act.put, List.setIfInBounds_toArray, List.set_cons_zero, List.set_cons_succ]))
            (refine Uni.WU.take (i := 4) (oi := { dst := some 63, op := _, type := _, pos := _, after := _, guard := _ }) (v := ?_) rfl (by kernel_rfl) (by kernel_rfl) (by decide) (by kernel_rfl) (by kernel_rfl) (Uni.Uni.run (by kernel_rfl) (by intro W' hS'; obtain ⟨hq1, hq2⟩ := EdC.bcellD hS'; go_simp; try with_reducible rfl)) ?_; (try simp only [Act.put, List.setIfInBounds_toArray, List.set_cons_zero, List.set_cons_succ]))
            (refine Uni.WU.take (i := 5) (oi := { dst := some 64, op := _, type := _, pos := _, after := _, guard := _ }) (v := ?_) rfl (by kernel_rfl) (by kernel_rfl) (by decide) (by kernel_rfl) (by kernel_rfl) (Uni.Uni.run (by kernel_rfl) (by intro W' hS'; obtain ⟨hq1, hq2⟩ := EdC.bcellD hS'; go_simp; try with_reducible rfl)) ?_; (try simp only [Act.put, List.setIfInBounds_toArray, List.set_cons_zero, List.set_cons_succ]))
            (refine Uni.WU.take (i := 6) (oi := { dst := some 65, op := _, type := _, pos := _, after := _, guard := _ }) (v := ?_) rfl (by kernel_rfl) (by kernel_rfl) (by decide) (by kernel_rfl) (by kernel_rfl) (Uni.Uni.run (by kernel_rfl) (by intro W' hS'; obtain ⟨hq1, hq2⟩ := EdC.bcellD hS'; go_simp; try with_reducible rfl)) ?_; (try simp only [Act.put, List.setIfInBounds_toArray, List.set_cons_zero, List.set_cons_succ]))
            (refine Uni.WU.take (i := 7) (oi := { dst := some 66, op := _, type := _, pos := _, after := _, guard := _ }) (v := ?_) rfl (by kernel_rfl) (by kernel_rfl) (by decide) (by kernel_rfl) (by kernel_rfl) (Uni.Uni.run (by kernel_rfl) (by intro W' hS'; obtain ⟨hq1, hq2⟩ := EdC.bcellD hS'; go_simp; try with_reducible rfl)) ?_; (try simp only [Act.put, List.setIfInBounds_toArray, List.set_cons_zero, List.set_cons_succ]))
            (refine Uni.WU.take (i := 8) (oi := { dst := some 67, op := _, type := _, pos := _, after := _, guard := _ }) (v := ?_) rfl (by kernel_rfl) (by kernel_rfl) (by decide) (by kernel_rfl) (by kernel_rfl) (Uni.Uni.run (by kernel_rfl) (by intro W' hS'; obtain ⟨hq1, hq2⟩ := EdC.bcellD hS'; go_simp; try with_reducible rfl)) ?_; (try simp only [Act.put, List.setIfInBounds_toArray, List.set_cons_zero, List.set_cons_succ]))
            (refine Uni.WU.take (i := 9) (oi := { dst := some 68, op := _, type := _, pos := _, after := _, guard := _ }) (v := ?_) rfl (by kernel_rfl) (by kernel_rfl) (by decide) (by kernel_rfl) (by kernel_rfl) (Uni.Uni.run (by kernel_rfl) (by intro W' hS'; obtain ⟨hq1, hq2⟩ := EdC.bcellD hS'; go_simp; try with_reducible rfl)) ?_; (try simp only [Act.put, List.setIfInBounds_toArray, List.set_cons_zero, List.set_cons_succ]))
            (refine Uni.WU.take (i := 10) (oi := { dst := some 69, op := _, type := _, pos := _, after := _, guard := _ }) (v := _) rfl (by kernel_rfl) (by kernel_rfl) (by decide) (by kernel_rfl) (by kernel_rfl) (Uni.Uni.call (by kernel_rfl) (by intro W' hS'; go_simp; try with_reducible rfl) (fun W' hS' => ((HMy W').out).mono fun e w' h => ⟨h.1, ext_under hS' (Nat.le_refl _) h.2⟩)) ?_; (try simp only [Act.put, List.setIfInBounds_toArray, List.set_cons_zero, List.set_cons_succ]))
            (refine Uni.WU.take (i := 11) (oi := { dst := some 70, op := _, type := _, pos := _, after := _, guard := _ }) (v := ?_) rfl (by kernel_rfl) (by kernel_rfl) (by decide) (by kernel_rfl) (by kernel_rfl) (Uni.Uni.run (by kernel_rfl) (by intro W' hS'; obtain ⟨hq1, hq2⟩ := EdC.bcellD hS'; go_simp; try with_reducible rfl)) ?_; (try simp only [Act.put, List.setIfInBounds_toArray, List.set_cons_zero, List.set_cons_succ]))
            refine Uni.WU.done (by kernel_rfl) (fun w6 hB6 => ?_) _
            have HR6 := Lib.hid ((HR5.out.ext hB6).none hX.out)
            clear hB6 x0 x1 x2 x3 x4 x5 x6 x7 d0 d1 d2 d3 d4 d5 d6 d7
            go_wp2
            go_roundg (gk - 1)
            case measure => omega
            case rel => exact ⟨j, nd, best, by omega, by omega, rfl, rfl, HN, HR6⟩
          | true =>
            rw [hc] at HMy
            have hX : Hid (fs[j]? = some (some i)) := by rw [Hid, HX.out, hXq.out, hc]; rfl
            clear hc hXq
            obtain ⟨L, hL⟩ : ∃ L, longOf (pairsOf (fs.drop (j + 1))) i + 1 = L := ⟨_, rfl⟩
            obtain ⟨nd2, hnd2⟩ : ∃ nd2, max nd L = nd2 := ⟨_, rfl⟩
            have HN : Hid (needOf (fs.drop j) = nd2) := by rw [Hid, needOf_some hX.out, hnd.out, hL]; exact hnd2
            have w5' : max (nd : Int) (L : Int) = (nd2 : Int) := by omega
            have HL := Lib.hid hL
            clear hnd2 hL
            go_wp2_with fail
            refine Uni.region (last := 12) (S := fun w' => Below w5.heap.size w5 w') (by kernel_rfl) ((Below.refl _ _).drew) ?_
            try simp only [Act.put, List.setIfInBounds_toArray, List.set_cons_zero, List.set_cons_succ]
            (refine Uni.WU.take (i := 0) (oi := { dst := some 59, op := _, type := _, pos := _, after := _, guard := _ }) (v := ?_) rfl (by kernel_rfl) (by kernel_rfl) (by decide) (by kernel_rfl) (by kernel_rfl) (Uni.Uni.run (by kernel_rfl) (by intro W' hS'; obtain ⟨hq1, hq2⟩ := EdC.bcellD hS'; go_simp; try with_reducible rfl)) ?_; (try simp only [Act.put, List.setIfInBounds_toArray, List.set_cons_zero, List.set_cons_succ]))
            (refine Uni.WU.take (i := 1) (oi := { dst := some 60, op := _, type := _, pos := _, after := _, guard := _ }) (v := ?_) rfl (by kernel_rfl) (by kernel_rfl) (by decide) (by kernel_rfl) (by kernel_rfl) (Uni.Uni.run (by kernel_rfl) (by intro W' hS'; obtain ⟨hq1, hq2⟩ := EdC.bcellD hS'; go_simp; try with_reducible rfl)) ?_; (try simp only [Act.put, List.setIfInBounds_toArray, List.set_cons_zero, List.set_cons_succ]))
            (refine Uni.WU.take (i := 2) (oi := { dst := some 61, op := _, type := _, pos := _, after := _, guard := _ }) (v := ?_) rfl (by kernel_rfl) (by kernel_rfl) (by decide) (by kernel_rfl) (by kernel_rfl) (Uni.Uni.run (by kernel_rfl) (by intro W' hS'; obtain ⟨hq1, hq2⟩ := EdC.bcellD hS'; go_simp; try with_reducible rfl)) ?_; (try simp only [Act.put, List.setIfInBounds_toArray, List.set_cons_zero, List.set_cons_succ]))
            (refine Uni.WU.take (i := 3) (oi := { dst := some 62, op := _, type := _, pos := _, after := _, guard := _ }) (v := ?_) rfl (by kernel_rfl) (by kernel_rfl) (by decide) (by kernel_rfl) (by kernel_rfl) (Uni.Uni.run (by kernel_rfl) (by intro W' hS'; obtain ⟨hq1, hq2⟩ := EdC.bcellD hS'; go_simp; try with_reducible rfl)) ?_; (try simp only [Act.put, List.setIfInBounds_toArray, List.set_cons_zero, List.set_cons_succ]))
            (refine Uni.WU.take (i := 4) (oi := { dst := some 63, op := _, type := _, pos := _, after := _, guard := _ }) (v := ?_) rfl (by kernel_rfl) (by kernel_rfl) (by decide) (by kernel_rfl) (by kernel_rfl) (Uni.Uni.run (by kernel_rfl) (by intro W' hS'; obtain ⟨hq1, hq2⟩ := EdC.bcellD hS'; go_simp; try with_reducible rfl)) ?_; (try simp only [Act.put, List.setIfInBounds_toArray, List.set_cons_zero, List.set_cons_succ]))
            (refine Uni.WU.take (i := 5) (oi := { dst := some 64, op := _, type := _, pos := _, after := _, guard := _ }) (v := ?_) rfl (by kernel_rfl) (by kernel_rfl) (by decide) (by kernel_rfl) (by kernel_rfl) (Uni.Uni.run (by kernel_rfl) (by intro W' hS'; obtain ⟨hq1, hq2⟩ := EdC.bcellD hS'; go_simp; try with_reducible rfl)) ?_; (try simp only [Act.put, List.setIfInBounds_toArray, List.set_cons_zero, List.set_cons_succ]))
            (refine Uni.WU.take (i := 6) (oi := { dst := some 65, op := _, type := _, pos := _, after := _, guard := _ }) (v := ?_) rfl (by kernel_rfl) (by kernel_rfl) (by decide) (by kernel_rfl) (by kernel_rfl) (Uni.Uni.run (by kernel_rfl) (by intro W' hS'; obtain ⟨hq1, hq2⟩ := EdC.bcellD hS'; go_simp; try with_reducible rfl)) ?_; (try simp only [Act.put, List.setIfInBounds_toArray, List.set_cons_zero, List.set_cons_succ]))
            (refine Uni.WU.take (i := 7) (oi := { dst := some 66, op := _, type := _, pos := _, after := _, guard := _ }) (v := ?_) rfl (by kernel_rfl) (by kernel_rfl) (by decide) (by kernel_rfl) (by kernel_rfl) (Uni.Uni.run (by kernel_rfl) (by intro W' hS'; obtain ⟨hq1, hq2⟩ := EdC.bcellD hS'; go_simp; try with_reducible rfl)) ?_; (try simp only [Act.put, List.setIfInBounds_toArray, List.set_cons_zero, List.set_cons_succ]))
            (refine Uni.WU.take (i := 8) (oi := { dst := some 67, op := _, type := _, pos := _, after := _, guard := _ }) (v := ?_) rfl (by kernel_rfl) (by kernel_rfl) (by decide) (by kernel_rfl) (by kernel_rfl) (Uni.Uni.run (by kernel_rfl) (by intro W' hS'; obtain ⟨hq1, hq2⟩ := EdC.bcellD hS'; go_simp; try with_reducible rfl)) ?_; (try simp only [Act.put, List.setIfInBounds_toArray, List.set_cons_zero, List.set_cons_succ]))
            (refine Uni.WU.take (i := 9) (oi := { dst := some 68, op := _, type := _, pos := _, after := _, guard := _ }) (v := ?_) rfl (by kernel_rfl) (by kernel_rfl) (by decide) (by kernel_rfl) (by kernel_rfl) (Uni.Uni.run (by kernel_rfl) (by intro W' hS'; obtain ⟨hq1, hq2⟩ := EdC.bcellD hS'; go_simp; try with_reducible rfl)) ?_; (try simp only [Act.put, List.setIfInBounds_toArray, List.set_cons_zero, List.set_cons_succ]))
            (refine Uni.WU.take (i := 10) (oi := { dst := some 69, op := _, type := _, pos := _, after := _, guard := _ }) (v := _) rfl (by kernel_rfl) (by kernel_rfl) (by decide) (by kernel_rfl) (by kernel_rfl) (Uni.Uni.call (by kernel_rfl) (by intro W' hS'; go_simp; try with_reducible rfl) (fun W' hS' => ((HMy W').out).mono fun e w' h => ⟨h.1, ext_under hS' (Nat.le_refl _) h.2⟩)) ?_; (try simp only [Act.put, List.setIfInBounds_toArray, List.set_cons_zero, List.set_cons_succ]))
            (refine Uni.WU.take (i := 11) (oi := { dst := some 70, op := _, type := _, pos := _, after := _, guard := _ }) (v := ?_) rfl (by kernel_rfl) (by kernel_rfl) (by decide) (by kernel_rfl) (by kernel_rfl) (Uni.Uni.run (by kernel_rfl) (by intro W' hS'; obtain ⟨hq1, hq2⟩ := EdC.bcellD hS'; go_simp; try with_reducible rfl)) ?_; (try simp only [Act.put, List.setIfInBounds_toArray, List.set_cons_zero, List.set_cons_succ]))
            refine Uni.WU.done (by kernel_rfl) (fun w6 hB6 => ?_) _
            have HR6 := Lib.hid (HR5.out.ext hB6)
            have HCt : Hid _ := Lib.hid (count_long HR6.out hX.out (by rw [hna.out]; exact HIl.out) hna2 (fun x hx => by rw [hna.out]; rw [← hfs.out] at hx; exact pairs_lt x hx) (by rw [hfl.out]; exact hnb2) HL.out)
            clear hB6 x0 x1 x2 x3 x4 x5 x6 x7 d0 d1 d2 d3 d4 d5 d6 d7
            go_wp2_with fail
            refine (HCt.out).mono ?_; rintro e w7 ⟨rfl, best7, hs7, hfen7, hbd7⟩
            have hlf : (flS fs (j + 1)).length = nb := by rw [flS_len (by rw [hfl.out]; omega)]; exact hfl.out
            have hll : (llS fs (j + 1)).length = nb := by rw [llS_len (by rw [hfl.out]; omega)]; exact hfl.out
            have k1 := K.cell hs7.fr (j := j) (at_zero (by omega))
            have k2 := K.free hs7.fr j
            have k3 := K.cell hs7.lo (j := j) (at_zero (by omega))
            have k4 := K.free hs7.lo j
            have hne := hs7.dist.1
            have hgf := hs7.fr.lt (g := gf) rfl
            have hgl := hs7.lo.lt (g := gl) rfl
            have HN7 : Hid (StR w ((w7.setCell ⟨gf, j, none⟩ (.int .i64 (i : Int))).setCell ⟨gl, j, none⟩ (.int .i64 (L : Int))) r b1 b2 g gf gl na nb a fs j best7) := by
              have h8 := (hs7.setf (j := j) (by omega) i).setl (j := j) (by omega) L
              rw [flS_some hX.out, ← HL.out, llS_some hX.out, HL.out] at h8
              exact ⟨h8, hfen7, hbd7⟩
            generalize (flS fs (j + 1)).getD j 0 = y1 at *
            generalize (llS fs (j + 1)).getD j 0 = y2 at *
            clear hs7 hfen7 hbd7 hlf hll HCt
            go_wp2
            go_roundg (gk - 1)
            case measure => omega
            case rel => exact ⟨j, nd2, best7, by omega, by omega, rfl, rfl, HN, HN7⟩
theorem stay_any (a b : List Fr) (A B : Option Addr) (na ca nb cb : Nat) (w : World) (ha : FrSl w w.heap.size A a) (hwa : FrsWf a) (hna : Hid (na = a.length)) (hb : FrSl w w.heap.size B b) (hwb : FrsWf b) (hnb : Hid (nb = b.length)) :
    Calls Try.prog 53 #[.slice A na ca, .slice B nb cb] w (RetSt w (stayE a b)) := by
  by_cases h0 : chk a = 0
  · by_cases h1 : chk b = 0
    · exact stay_yes a b A B na ca nb cb w ha hwa hna hb hwb hnb h0 h1
    · exact stay_no2 a b A B na ca nb cb w ha hwa hna hb hwb hnb h0 h1
  · exact stay_no1 a b A B na ca nb cb w ha hwa hna h0
end Go.Proofs.Ytiljpbncfofnhaa.Dif
