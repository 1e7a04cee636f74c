/- diff: the document's Stay. -/
import Derived.Test.YtiljpbncfofnhaaDfJ
import Derived.Test.YtiljpbncfofnhaaDfH
import Derived.Test.YtiljpbncfofnhaaRTree
import Derived.Outline
import Derived.BigQuiet
import Derived.Deep.QuietTactic
import Derived.Deep.RegionWith
import Derived.Deep.RegionHeld3
import Derived.Deep.DrawnRows
import Derived.Deep.LoopGhost
import Derived.Deep.DeepCutAuto
import Derived.Laws.EntriesVeiled
import Derived.BigRegion
import Derived.BigQuiet
import Derived.Deep.RegionLaw
namespace Go.Proofs.Ytiljpbncfofnhaa.Dif
open Go.RowKit Go.ChangeShapes Go.WideShapes Go.ChangeAt
set_option linter.unusedVariables false
set_option linter.unusedSimpArgs false
attribute [local go_sem ↓] Go.wp_at_zero Go.wp_at_succ
open FragA FragB MayA Tree EdC EdB

/-! ### plain: the longest one of those behind -/
def runM (i : Nat) : List (Option Nat) → Nat → Nat
  | [], cur => cur
  | none :: r, cur => runM i r cur
  | some i' :: r, cur => runM i r (if i < i' ∧ cur < 1 + longOf (pairsOf r) i' then 1 + longOf (pairsOf r) i' else cur)
theorem runM_eq (i : Nat) : ∀ (fs : List (Option Nat)) (cur : Nat), runM i fs cur = max cur (longOf (pairsOf fs) i)
  | [], cur => by simp [runM, pairsOf, longOf]
  | none :: r, cur => by simp only [runM, pairsOf]; exact runM_eq i r cur
  | some i' :: r, cur => by
    simp only [runM, pairsOf]
    rw [runM_eq i r]
    have e : longOf ((i', 1 + longOf (pairsOf r) i') :: pairsOf r) i = if i < i' then max (1 + longOf (pairsOf r) i') (longOf (pairsOf r) i) else longOf (pairsOf r) i := rfl
    rw [e]
    by_cases h : i < i'
    · rw [if_pos h]
      by_cases h2 : cur < 1 + longOf (pairsOf r) i'
      · rw [if_pos ⟨h, h2⟩]; omega
      · rw [if_neg (fun k => h2 k.2)]; omega
    · rw [if_neg h, if_neg (fun k => h k.1)]
theorem runM_step {i k g : Nat} {fs : List (Option Nat)} {o : Option Nat} (ho : fs[k]? = some o) (hg : (lngOf fs)[k]? = some g) (cur : Nat) : runM i (fs.drop k) cur = runM i (fs.drop (k + 1)) (if (i : Int) < oldZ o ∧ cur < g then g else cur) := by
  rw [drop_at ho]
  have hgen : ∀ (fs : List (Option Nat)) (k g : Nat), (lngOf fs)[k]? = some g → fs[k]? = some none ∨ ∃ i', fs[k]? = some (some i') ∧ g = 1 + longOf (pairsOf (fs.drop (k + 1))) i' := by
    intro fs
    induction fs with
    | nil => intro k g h; simp [lngOf] at h
    | cons o r ih =>
      intro k g h
      cases k with
      | zero =>
        cases o with
        | none => exact .inl rfl
        | some i' =>
          right
          simp [lngOf] at h
          exact ⟨i', rfl, h.symm⟩
      | succ k =>
        cases o with
        | none => simpa using ih k g (by simpa [lngOf] using h)
        | some i' => simpa using ih k g (by simpa [lngOf] using h)
  rcases hgen fs k g hg with h | ⟨i', h, hgv⟩
  · rw [ho] at h
    injection h with h
    subst h
    have hc : ¬ ((i : Int) < oldZ none ∧ cur < g) := fun h => by
      have := h.1
      simp only [oldZ] at this
      omega
    rw [if_neg hc]
    rfl
  · rw [ho] at h
    injection h with h
    subst h
    by_cases hc : (i : Int) < oldZ (some i') ∧ cur < g
    · have hc' : i < i' ∧ cur < g := ⟨by have := hc.1; simp only [oldZ] at this; omega, hc.2⟩
      rw [if_pos hc]
      simp only [runM]
      rw [← hgv, if_pos hc']
    · have hc' : ¬ (i < i' ∧ cur < g) := fun k => hc ⟨by simp only [oldZ]; omega, k.2⟩
      rw [if_neg hc]
      simp only [runM]
      rw [← hgv, if_neg hc']
def frI (fs : List (Option Nat)) (m : Nat) : List Int := List.replicate m 0 ++ (fs.drop m).map oldZ
theorem frI_len {fs : List (Option Nat)} {m : Nat} (h : m ≤ fs.length) : (frI fs m).length = fs.length := by simp [frI]; omega
theorem frI_step {fs : List (Option Nat)} {j : Nat} {o : Option Nat} (h : fs[j]? = some o) : (frI fs (j + 1)).set j (oldZ o) = frI fs j := by
  unfold frI
  rw [drop_at h, List.replicate_succ', List.append_assoc, List.set_append, if_neg (by simp)]
  simp
theorem frI_at {fs : List (Option Nat)} {m k : Nat} {o : Option Nat} (h : fs[k]? = some o) (hk : m ≤ k) : (frI fs m)[k]? = some (oldZ o) := by
  unfold frI
  rw [List.getElem?_append_right (by simpa using hk)]
  simp only [List.length_replicate, List.getElem?_map, List.getElem?_drop]
  rw [show m + (k - m) = k from by omega, h]; rfl
theorem lng_drop : ∀ (fs : List (Option Nat)) (m : Nat), lngOf (fs.drop m) = (lngOf fs).drop m
  | fs, 0 => rfl
  | [], m + 1 => by simp [lngOf]
  | none :: r, m + 1 => by simpa [lngOf] using lng_drop r m
  | some i :: r, m + 1 => by simpa [lngOf] using lng_drop r m
theorem llS_at {fs : List (Option Nat)} {m k g : Nat} (h : (lngOf fs)[k]? = some g) (hk : m ≤ k) : (llS fs m)[k]? = some g := by
  unfold llS
  rw [List.getElem?_append_right (by simpa using hk), lng_drop]
  simp only [List.length_replicate, List.getElem?_drop]
  rw [show m + (k - m) = k from by omega, h]
theorem llS_hole {fs : List (Option Nat)} {j : Nat} (h : j < fs.length) : (llS fs (j + 1))[j]? = some 0 := by
  unfold llS
  rw [List.getElem?_append_left (by simp)]
  simp

/-! ### memory -/
abbrev ISl (w : World) (B : Nat) (A : Option Addr) (l : List Int) : Prop := Sl w B 1 encI A l
theorem made_i (W : World) (n : Nat) (hn : n ≤ maxLen) : OwnA (W.alloc (.cells (madeCells (Value.int .i64 0).cells n) 3)) 3 1 encI (.slice (some ⟨W.heap.size, 0, none⟩) n n) (List.replicate n 0) := by
  have e := made_flat (enc := encI) (c := 1) (fun _ => rfl) (by decide) (0 : Int) (.int .i64 0) (by rfl) n
  rw [Nat.mul_one] at e
  refine .inr ⟨W.heap.size, 0, n, _, by rw [List.length_replicate], heap_alloc_new W _, by rw [List.length_replicate]; exact Nat.le_refl _, hn, by simp [size_madeCells], ?_⟩
  rw [List.drop_zero, e, List.take_of_length_le (by rw [flat_length (enc := encI) (c := 1) (fun _ => rfl)]; exact Nat.le_refl _)]
structure RtIn (w wr : World) (gf gl nb : Nat) (fl : List Int) (ll : List Nat) : Prop where
  fr : OwnA wr 3 1 encI (.slice (some ⟨gf, 0, none⟩) nb nb) fl
  lo : OwnA wr 3 1 encK (.slice (some ⟨gl, 0, none⟩) nb nb) ll
  ne : gf ≠ gl
  fresh : w.heap.size ≤ gf ∧ w.heap.size ≤ gl
  be : Below w.heap.size w wr
section
variable {w wr w' : World} {gf gl nb : Nat} {fl : List Int} {ll : List Nat}
theorem RtIn.ext (h : RtIn w wr gf gl nb fl ll) (hb : Below wr.heap.size wr w') : RtIn w w' gf gl nb fl ll := ⟨h.fr.ext hb, h.lo.ext hb, h.ne, h.fresh, ext_under h.be (Nat.le_refl _) hb⟩
theorem RtIn.setf (h : RtIn w wr gf gl nb fl ll) {j : Nat} (hj : j < fl.length) (v : Int) : RtIn w (wr.setCell ⟨gf, j, none⟩ (.int .i64 v)) gf gl nb (fl.set j v) ll := by
  have hset : Chg (fun i => i = gf) wr (wr.setCell ⟨gf, j, none⟩ (.int .i64 v)) := (Chg.refl (fun i => i = gf) wr).setCell (p := ⟨gf, j, none⟩) (fun _ => rfl) _
  have hs := h.fr.store (enc := encI) (fun _ => rfl) (k := j) (j := 0) (x' := v) (u := .int .i64 v) (List.getElem?_eq_getElem hj) (by decide : 0 < 1) rfl
  simp only [Nat.zero_add, Nat.mul_one, Nat.add_zero] at hs
  exact ⟨hs, h.lo.chg hset (fun b hb => by simp [Value.ownBlock] at hb; subst hb; exact fun e => h.ne e.symm), h.ne, h.fresh, h.be.setCell (by have := h.fresh.1; simpa using this) _⟩
theorem RtIn.setl (h : RtIn w wr gf gl nb fl ll) {j : Nat} (hj : j < ll.length) (v : Nat) : RtIn w (wr.setCell ⟨gl, j, none⟩ (.int .i64 (v : Int))) gf gl nb fl (ll.set j v) := by
  have hset : Chg (fun i => i = gl) wr (wr.setCell ⟨gl, j, none⟩ (.int .i64 (v : Int))) := (Chg.refl (fun i => i = gl) wr).setCell (p := ⟨gl, j, none⟩) (fun _ => rfl) _
  have hs := h.lo.store encK_len (k := j) (j := 0) (x' := v) (u := .int .i64 (v : Int)) (List.getElem?_eq_getElem hj) (by omega) rfl
  simp only [Nat.zero_add, Nat.mul_one, Nat.add_zero] at hs
  exact ⟨h.fr.chg hset (fun b hb => by simp [Value.ownBlock] at hb; subst hb; exact h.ne), hs, h.ne, h.fresh, h.be.setCell (by have := h.fresh.2; simpa using this) _⟩
theorem RtIn.pair (h : RtIn w wr gf gl nb fl ll) {v : Value} {acc : List (Nat × Nat)} (ho : OwnA wr 87 2 encP v acc) (hc : Chg (fun k => v.ownBlock = some k) wr w') (hv : ∀ g, v.ownBlock = some g → w.heap.size ≤ g) : RtIn w w' gf gl nb fl ll :=
  ⟨h.fr.chg hc (fun b hb e => ho.apartA h.fr (by decide) e hb), h.lo.chg hc (fun b hb e => ho.apartA h.lo (by decide) e hb), h.ne, h.fresh, h.be.trans (hc.below h.be.size (fun i hi e => by have := hv i e; omega))⟩
theorem I.cell (h : OwnA wr 3 1 encI (.slice (some ⟨gf, 0, none⟩) nb nb) fl) {j : Nat} {x : Int} (hx : fl[j]? = some x) : wr.cell? ⟨gf, j, none⟩ = some (.int .i64 x) := by
  obtain ⟨g', off, hA, _, cx⟩ := Sl.at_ (h.sl (enc := encI) (fun _ => rfl)) hx
  injection hA with hA
  injection hA with hA1 hA2 _
  subst hA1
  subst hA2
  simpa [encI] using cx 0 _ rfl
theorem I.free (h : OwnA wr 3 1 encI (.slice (some ⟨gf, 0, none⟩) nb nb) fl) (j : Nat) : wr.frozen? ⟨gf, j, none⟩ = false := by
  obtain ⟨_, _, cur', _, hh, _⟩ := h.row (g := gf) rfl
  exact frozen_of_row wr gf j cur' _ hh
end
theorem at_ok {l : List Int} {k : Nat} (h : k < l.length) : ∃ x, l[k]? = some x := ⟨_, List.getElem?_eq_getElem h⟩
/-- what the second loop has -/
structure RtS (w wr : World) (gf gl nb : Nat) (a b : List Fr) (fs : List (Option Nat)) (j need : Nat) (last : Int) (acc : List (Nat × Nat)) (v : Value) : Prop where
  st : RtIn w wr gf gl nb (frI fs 0) (llS fs 0)
  own : OwnA wr 87 2 encP v acc
  vf : ∀ g, v.ownBlock = some g → w.heap.size ≤ g
  eq : stayL a b = acc ++ selL ((fs.zip (lngOf fs)).drop j) need last j
  len : acc.length ≤ j
theorem RtS.skip {w wr : World} {gf gl nb : Nat} {a b : List Fr} {fs : List (Option Nat)} {j need : Nat} {last : Int} {acc : List (Nat × Nat)} {v : Value} (h : RtS w wr gf gl nb a b fs j need last acc v) {o : Option Nat} {gg : Nat} (hx : fs[j]? = some o) (hg : (lngOf fs)[j]? = some gg)
    (hc : ∀ i, o = some i → ¬ (0 < need ∧ gg = need ∧ last < (i : Int))) : RtS w wr gf gl nb a b fs (j + 1) need last acc v :=
  ⟨h.st, h.own, h.vf, by rw [h.eq, zip_drop hx hg, selL_no hc], by have := h.len; omega⟩
theorem RtS.pick {w wr w9 : World} {gf gl nb i : Nat} {a b : List Fr} {fs : List (Option Nat)} {j need : Nat} {last : Int} {acc : List (Nat × Nat)} {v v' : Value} (h : RtS w wr gf gl nb a b fs j need last acc v) {gg : Nat} (hx : fs[j]? = some (some i)) (hg : (lngOf fs)[j]? = some gg)
    (hc : 0 < need ∧ gg = need ∧ last < (i : Int)) {o : Obj} (hown : OwnA w9 87 2 encP v' (acc ++ [(i, j)])) (hch : Chg (fun k => v.ownBlock = some k) (wr.alloc o) w9) (hat : v'.ownBlock = v.ownBlock ∨ v'.ownBlock = some (wr.alloc o).heap.size) : RtS w w9 gf gl nb a b fs (j + 1) (need - 1) (i : Int) (acc ++ [(i, j)]) v' := by
  have h1 := h.st.ext (EdF.below_a wr o)
  refine ⟨h1.pair (h.own.ext (EdF.below_a wr o)) hch h.vf, hown, fun b hb => ?_, by rw [h.eq, zip_drop hx hg, selL_yes hc]; simp, by have := h.len; simp; omega⟩
  rcases hat with e | e
  · exact h.vf b (e ▸ hb)
  · rw [e] at hb
    injection hb with hb
    have := h.st.be.size
    simp at hb
    omega
set_option maxRecDepth 100000 in
theorem rstay_no1 (a b : List Fr) (A B : Option Addr) (na ca nb cb : Nat) (w : World) (ha : FrSl w w.heap.size A a) (hwa : FrsWf a) (hna : Hid (na = a.length)) (h63 : na ≤ maxLen) (h0 : chk a ≠ 0) :
    Calls Try.prog 51 #[.slice A na ca, .slice B nb cb] w (RetSt w (stayE a b)) := by
  have hE : Hid (stayE a b = ([], 200)) := by rw [Hid, stayE, if_pos (.inl h0)]
  have HC := Lib.hid (RTree.rcheck_any a A na ca w ha hwa hna h63)
  obtain ⟨x, hx⟩ : ∃ x, chk a = x := ⟨_, rfl⟩
  rw [hx] at HC h0
  have h0' : (x == 0) = false := by simpa using h0
  have h0'' : (x != 0) = true := by simp [h0]
  clear hx h0 ha
  go_enter Try.func51, Try.ntmps51
  go_wp2_with fail
  refine (HC.out).mono ?_; rintro e w1 ⟨rfl, hb1⟩
  have HB := Lib.hid hb1
  clear hb1
  go_wp2
  refine bodyPost_ret (by simp [results, Try.results51, go_sem]; rfl) rfl ?_
  rw [hE.out]
  exact ⟨.slice none 0 0, rfl, OwnA.nil_ _ _ _ _, (fun g h => nomatch h), HB.out⟩
set_option maxRecDepth 100000 in
theorem rstay_no2 (a b : List Fr) (A B : Option Addr) (na ca nb cb : Nat) (w : World) (ha : FrSl w w.heap.size A a) (hwa : FrsWf a) (hna : Hid (na = a.length)) (hb : FrSl w w.heap.size B b) (hwb : FrsWf b) (hnb : Hid (nb = b.length)) (h63 : na ≤ maxLen) (m63 : nb ≤ maxLen) (h0 : chk a = 0) (h1 : chk b ≠ 0) :
    Calls Try.prog 51 #[.slice A na ca, .slice B nb cb] w (RetSt w (stayE a b)) := by
  have hE : Hid (stayE a b = ([], 200)) := by rw [Hid, stayE, if_pos (.inr h1)]
  have HC := Lib.hid (RTree.rcheck_any a A na ca w ha hwa hna h63)
  have HD := fun W (hW : Below w.heap.size w W) => Lib.hid (RTree.rcheck_any b B nb cb W ((Sl.below hb hW).more hW.size) hwb hnb m63)
  obtain ⟨x, hx⟩ : ∃ x, chk b = x := ⟨_, rfl⟩
  rw [hx] at HD h1
  rw [h0] at HC
  have h1' : (x == 0) = false := by simpa using h1
  have h1'' : (x != 0) = true := by simp [h1]
  clear hx h1 h0 ha hb
  go_enter Try.func51, Try.ntmps51
  go_wp2_with fail
  refine (HC.out).mono ?_; rintro e w1 ⟨rfl, hb1⟩
  have HB := Lib.hid hb1
  clear hb1
  go_wp2_with fail
  refine ((HD _ HB.out).out).mono ?_; rintro e w2 ⟨rfl, hb2⟩
  have HB2 := Lib.hid (ext_under HB.out (Nat.le_refl _) hb2)
  clear hb2
  go_wp2
  refine bodyPost_ret (by simp [results, Try.results51, go_sem]; rfl) rfl ?_
  rw [hE.out]
  exact ⟨.slice none 0 0, rfl, OwnA.nil_ _ _ _ _, (fun g h => nomatch h), HB2.out⟩
theorem set_same {l : List Nat} {j v : Nat} (h : l[j]? = some v) : l.set j v = l := by
  obtain ⟨hj, rfl⟩ := List.getElem?_eq_some_iff.1 h
  exact List.set_getElem_self hj
theorem RtIn.start {w w2 : World} {nb : Nat} {fs : List (Option Nat)} (h2 : Below w.heap.size w w2) (hn : nb ≤ 100000) (hfs : fs.length = nb) : RtIn w ((w2.alloc (.cells (madeCells (Value.int .i64 0).cells nb) 3)).alloc (.cells (madeCells (Value.int .i64 0).cells nb) 3)) w2.heap.size (w2.heap.size + 1) nb (frI fs nb) (llS fs nb) := by
  have hm : nb ≤ maxLen := by unfold maxLen; omega
  have h3 := made_i w2 nb hm
  have h4 := zeros_at (w2.alloc (.cells (madeCells (Value.int .i64 0).cells nb) 3)) nb hm
  rw [show (w2.alloc (.cells (madeCells (Value.int .i64 0).cells nb) 3)).heap.size = w2.heap.size + 1 from by simp] at h4
  have e1 : frI fs nb = List.replicate nb 0 := by rw [frI, ← hfs, List.drop_length]; simp
  have e2 : llS fs nb = List.replicate nb 0 := by rw [llS, ← hfs, List.drop_length]; simp [lngOf]
  have s2 := h2.size
  rw [e1, e2]
  exact ⟨h3.ext (EdF.below_a _ _), h4, by omega, ⟨by omega, by omega⟩, ext_under (ext_under h2 (Nat.le_refl _) (EdF.below_a _ _)) (Nat.le_refl _) (EdF.below_a _ _)⟩
set_option maxRecDepth 100000 in
set_option maxHeartbeats 8000000 in
theorem rstay_yes (a b : List Fr) (A B : Option Addr) (na ca nb cb : Nat) (w : World) (ha : FrSl w w.heap.size A a) (hwa : FrsWf a) (hna : Hid (na = a.length)) (hb : FrSl w w.heap.size B b) (hwb : FrsWf b) (hnb : Hid (nb = b.length)) (h63 : na ≤ maxLen) (m63 : nb ≤ maxLen) (h0 : chk a = 0) (h1 : chk b = 0) :
    Calls Try.prog 51 #[.slice A na ca, .slice B nb cb] w (RetSt w (stayE a b)) := by
  have hE : Hid (stayE a b = (stayL a b, 0)) := by rw [Hid, stayE, if_neg (by simp [h0, h1])]
  have HC := Lib.hid (RTree.rcheck_any a A na ca w ha hwa hna h63)
  have HD := fun W (hW : Below w.heap.size w W) => Lib.hid (RTree.rcheck_any b B nb cb W ((Sl.below hb hW).more hW.size) hwb hnb m63)
  have hna2 : na ≤ 2048 := by rw [hna.out]; exact (FCheck.chk_zero h0).2.2
  have hnb2 : nb ≤ 2048 := by rw [hnb.out]; exact (FCheck.chk_zero h1).2.2
  simp only [h0, h1] at HC HD
  clear h0 h1 h63 m63
  have HA := Lib.hid ha
  have HBs := Lib.hid hb
  clear ha hb
  obtain ⟨fs, hfs⟩ : ∃ fs, Hid (b.map (fromL a) = fs) := ⟨_, rfl⟩
  have hfl : Hid (fs.length = nb) := by rw [Hid, ← hfs.out, List.length_map, hnb.out]
  go_enter Try.func51, Try.ntmps51
  go_wp2_with fail
  refine (HC.out).mono ?_; rintro e w1 ⟨rfl, hb1⟩
  have HB := Lib.hid hb1
  clear hb1
  go_wp2_with fail
  refine ((HD _ HB.out).out).mono ?_; rintro e w2 ⟨rfl, hb2⟩
  have HB2 := Lib.hid (ext_under HB.out (Nat.le_refl _) hb2)
  have HS := Lib.hid (RtIn.start HB2.out (by omega) hfl.out)
  have hmk := run_mk nb (by omega)
  have w0 : IntKind.i64.wrap ((nb : Int) - 1) = (nb : Int) - 1 := IntWalk.i64_in _ (by omega)
  have hN0 : Hid (needOf (fs.drop nb) = 0) := by rw [Hid, ← hfl.out, List.drop_length]; rfl
  clear hb2 HC HD HB
  go_wp2
  clear hmk
  go_loopg [8, 9] nb (fun gh v8 v9 wr => ∃ (m nd : Nat), m ≤ gh ∧ m ≤ nb ∧ v8 = .int .i64 (nd : Int) ∧ v9 = .int .i64 ((m : Int) - 1) ∧ Hid (needOf (fs.drop m) = nd) ∧ Hid (RtIn w wr w2.heap.size (w2.heap.size + 1) nb (frI fs m) (llS fs m)))
  case atStart => exact ⟨nb, 0, by omega, by omega, rfl, rfl, hN0, HS⟩
  case round =>
    clear HS
    obtain ⟨m, nd, hg, hmb, rfl, hv9, hnd, HR⟩ := hrel
    have hndb := need_le fs m
    rw [hnd.out, hfl.out] at hndb
    generalize w2.heap.size = gf at *
    generalize gf + 1 = gl at *
    rcases m with _ | j
    · rw [show ((0 : Nat) : Int) - 1 = -1 from rfl] at hv9
      subst hv9
      obtain ⟨p0, hp, hpz, hpz1, hpz2⟩ := info_parts pairInfo
      have HS2 : Hid (RtS w wr gf gl nb a b fs 0 nd (-1) [] (.slice none 0 0)) := by
        refine ⟨HR.out, OwnA.nil_ _ _ _ _, (fun b hb => nomatch hb), ?_, Nat.le_refl _⟩
        have h := hnd.out
        rw [List.drop_zero] at h
        rw [List.nil_append, List.drop_zero, stayL, hfs.out, h]
      clear HR hnd
      go_wp2
      go_loopg [8, 11, 12, 13] nb (fun gh v8 v11 v12 v13 wr => ∃ (j need : Nat) (last : Int) (acc : List (Nat × Nat)) (A2 : Option Addr) (n2 c2 : Nat), nb ≤ j + gh ∧ j ≤ nb ∧ need ≤ nb ∧ v8 = .int .i64 (need : Int) ∧ v11 = .slice A2 n2 c2 ∧ v12 = .int .i64 last ∧ v13 = .int .i64 (j : Int) ∧ Hid (RtS w wr gf gl nb a b fs j need last acc (.slice A2 n2 c2)))
      case atStart => exact ⟨0, nd, -1, [], _, _, _, by omega, by omega, hndb, rfl, rfl, rfl, rfl, HS2⟩
      case round =>
        clear HS2
        obtain ⟨j, need, last, acc, A2, n2, c2, hg, hjn, hneed, rfl, rfl, rfl, rfl, HS2⟩ := hrel
        by_cases hlt : j < nb
        · have hjl : j < fs.length := by rw [hfl.out]; exact hlt
          obtain ⟨o, hx⟩ : ∃ o, fs[j]? = some o := ⟨_, List.getElem?_eq_getElem hjl⟩
          obtain ⟨gg, hgg, hgb⟩ := lng_at hjl
          rw [hfl.out] at hgb
          have k1 := I.cell HS2.out.st.fr (frI_at hx (Nat.zero_le j))
          have k2 := K.cell HS2.out.st.lo (by rw [llS_zero]; exact hgg)
          have c1' : (0 : Int) ≤ (j : Int) := Int.natCast_nonneg _
          have c2' : (j : Int) < (nb : Int) := by omega
          have hnn : o = none → gg = 0 := fun e => by
            rw [e] at hx
            have := lng_none hx
            rw [hgg] at this
            injection this
          have HX := Lib.hid (And.intro hx hgg)
          clear hx hgg hjl
          have hno : ¬ (∃ i, o = some i ∧ (0 < need ∧ gg = need ∧ last < (i : Int))) → Hid (RtS w wr gf gl nb a b fs (j + 1) need last acc (.slice A2 n2 c2)) := fun h => HS2.out.skip HX.out.1 HX.out.2 (fun i e hc => h ⟨i, e, hc⟩)
          by_cases hn : 0 < need
          · have n1 : decide (0 < need) = true := decide_eq_true hn
            have n2' : (0 : Int) < (need : Int) := by omega
            by_cases he : gg = need
            · subst he
              cases o with
              | none => exact absurd (hnn rfl) (by omega)
              | some i =>
                simp only [oldZ] at k1
                clear hnn
                by_cases hl : last < (i : Int)
                · clear hno
                  have HO : Hid (OwnA (wr.alloc (.cells #[.int .i64 (i : Int), .int .i64 (j : Int)] 87)) 87 2 encP (.slice A2 n2 c2) acc) := HS2.out.own.ext (EdF.below_a _ _)
                  have HL : Hid (Sl (wr.alloc (.cells #[.int .i64 (i : Int), .int .i64 (j : Int)] 87)) (wr.alloc (.cells #[.int .i64 (i : Int), .int .i64 (j : Int)] 87)).heap.size 2 encP (some ⟨wr.heap.size, 0, none⟩) [(i, j)]) := p_lit wr (i, j)
                  have hal := HS2.out.len
                  have a1 : Hid (acc.length + [(i, j)].length ≤ maxLen) := by rw [Hid]; simp [maxLen]; omega
                  have a2 : Hid ((acc.length + [(i, j)].length) * 16 ≤ 140737488355328) := by rw [Hid]; simp; omega
                  have w8 : IntKind.i64.wrap ((gg : Int) - 1) = ((gg - 1 : Nat) : Int) := by rw [IntWalk.i64_in _ (by omega)]; omega
                  have Hcc := Lib.hid (And.intro hn (And.intro (rfl : gg = gg) hl))
                  go_wp2_with (at_builtin; refine wpList_append_a _ rfl _ _ _ rfl 87 p0 _ 2 16 Try.underlying80 hp hpz hpz1 hpz2 rfl (by decide) encP_len encP_one (.slice A2 n2 c2) acc (by rfl) HO.out _ (some ⟨wr.heap.size, 0, none⟩) [(i, j)] 1 1 (by rfl) rfl HL.out a1.out a2.out ?_; intro v' w9 hown hchg hat; obtain ⟨A9, n9, c9, rfl, _, _, _, _⟩ := hown.form; have HP := Lib.hid (HS2.out.pick HX.out.1 HX.out.2 Hcc.out hown hchg hat); have m2 : w9.cell? ⟨gf, j, none⟩ = some (.int .i64 (i : Int)) := I.cell HP.out.st.fr (frI_at HX.out.1 (Nat.zero_le j)); clear hown hchg hat)
                  go_roundg (gk - 1)
                  case measure => omega
                  case rel => exact ⟨j + 1, gg - 1, (i : Int), acc ++ [(i, j)], A9, n9, c9, by omega, by omega, by omega, rfl, rfl, rfl, by go_num, HP⟩
                · have HN := hno (by rintro ⟨i', e, _, _, h⟩; injection e with e; subst e; exact hl h)
                  clear hno
                  go_wp2
                  go_roundg (gk - 1)
                  case measure => omega
                  case rel => exact ⟨j + 1, gg, last, acc, A2, n2, c2, by omega, by omega, by omega, rfl, rfl, rfl, by go_num, HN⟩
            · have he' : ((gg : Int) == (need : Int)) = false := by simp; omega
              have he'' : (gg == need) = false := by simpa using he
              have HN := hno (by rintro ⟨i', _, _, h, _⟩; exact he h)
              clear hno hnn
              generalize oldZ o = y at *
              go_wp2
              go_roundg (gk - 1)
              case measure => omega
              case rel => exact ⟨j + 1, need, last, acc, A2, n2, c2, by omega, by omega, by omega, rfl, rfl, rfl, by go_num, HN⟩
          · have hz : need = 0 := by omega
            have HN := hno (by rintro ⟨i', _, h, _⟩; exact hn h)
            clear hno hnn
            subst hz
            go_wp2
            go_roundg (gk - 1)
            case measure => omega
            case rel => exact ⟨j + 1, 0, last, acc, A2, n2, c2, by omega, by omega, by omega, rfl, rfl, rfl, by go_num, HN⟩
        · have HF : Hid (stayL a b = acc) := by
            have h := HS2.out.eq
            rw [List.drop_of_length_le (by rw [List.length_zip, lngOf_len, hfl.out]; omega), selL, List.append_nil] at h
            exact h
          go_wp2
          refine bodyPost_ret (by simp [results, Try.results51, go_sem]; rfl) rfl ?_
          rw [hE.out, HF.out]
          exact ⟨_, rfl, HS2.out.own, HS2.out.vf, HS2.out.st.be⟩
    · rw [show ((j + 1 : Nat) : Int) - 1 = (j : Int) from by omega] at hv9
      subst hv9
      have hjl : j < b.length := by rw [← hnb.out]; omega
      obtain ⟨q, hx⟩ : ∃ q, b[j]? = some q := ⟨_, List.getElem?_eq_getElem hjl⟩
      have HX : Hid (fs[j]? = some (fromL a q)) := by rw [Hid, ← hfs.out]; exact froms_at hx
      have hbe := HR.out.be
      obtain ⟨bb, off, rfl, hbb, c0, c1, c2, c3, c4, c5, c6, c7⟩ := FrSl.at_ ((Sl.below HBs.out hbe).more hbe.size) hx
      have c1' : (0 : Int) ≤ (j : Int) := Int.natCast_nonneg _
      have c2' : (j : Int) < (nb : Int) := by omega
      have w1 : IntKind.i64.wrap ((j : Int) - 1) = (j : Int) - 1 := IntWalk.i64_in _ (by omega)
      have w3 : IntKind.i64.wrap ((j : Int) + 1) = ((j + 1 : Nat) : Int) := by rw [IntWalk.i64_in _ (by omega)]; omega
      have HO := Lib.hid (rold_any a A na ca q wr ((Sl.below HA.out hbe).more hbe.size) hna (by omega))
      obtain ⟨o, ho⟩ : ∃ o, Hid (fromL a q = o) := ⟨_, rfl⟩
      rw [ho.out] at HO HX
      unfold Fr.agg at HO
      obtain ⟨z, hz⟩ : ∃ z, Hid (oldZ o = z) := ⟨_, rfl⟩
      rw [hz.out] at HO
      clear hx hbe hjl
      go_wp2_with fail
      refine (HO.out).mono ?_; rintro e w5 ⟨rfl, hb5⟩
      have h5 := HR.out.ext hb5
      have hlf : (frI fs (j + 1)).length = nb := by rw [frI_len (by rw [hfl.out]; omega)]; exact hfl.out
      have hll : (llS fs (j + 1)).length = nb := by rw [llS_len (by rw [hfl.out]; omega)]; exact hfl.out
      obtain ⟨y1, hy1⟩ := at_ok (l := frI fs (j + 1)) (k := j) (by omega)
      have k1 := I.cell h5.fr hy1
      have k2 := I.free h5.fr j
      have h6 := h5.setf (j := j) (by omega) z
      rw [← hz.out, frI_step HX.out, hz.out] at h6
      have HR6 := Lib.hid h6
      have hgf := h5.fr.lt (g := gf) rfl
      clear h5 h6 hb5 hy1 hlf c0 c1 c2 c3 c4 c5 c6 c7 HR HO
      cases o with
      | none =>
        have ez : -1 = z := hz.out
        subst ez
        have HN : Hid (needOf (fs.drop j) = nd) := by rw [Hid, needOf_none HX.out]; exact hnd.out
        rw [← llS_none HX.out] at HR6
        go_wp2
        go_roundg (gk - 1)
        case measure => omega
        case rel => exact ⟨j, nd, by omega, by omega, rfl, rfl, HN, HR6⟩
      | some i =>
        have ez : (i : Int) = z := hz.out
        subst ez
        have hi1 : (0 : Int) ≤ (i : Int) := Int.natCast_nonneg _
        have hi0 : ¬ (i : Int) < 0 := by omega
        obtain ⟨M, hM⟩ : ∃ M, Hid (longOf (pairsOf (fs.drop (j + 1))) i = M) := ⟨_, rfl⟩
        have hM0 : Hid (runM i (fs.drop (j + 1)) 0 = M) := by rw [Hid, runM_eq, hM.out]; omega
        have hMb : M ≤ nb := by rw [← hM.out, ← hfl.out]; exact long_le fs (j + 1) i
        go_wp2
        generalize w5.setCell ⟨gf, j, none⟩ (.int .i64 (i : Int)) = W6 at *
        clear k1 k2 hgf
        rw [← set_same (llS_hole (fs := fs) (j := j) (by rw [hfl.out]; omega))] at HR6
        generalize wr = W1 at *
        generalize gk = g0 at *
        go_loopg [10] nb (fun gh v10 wr => ∃ (k cur : Nat), nb ≤ k + gh ∧ j + 1 ≤ k ∧ k ≤ nb ∧ v10 = .int .i64 (k : Int) ∧ cur ≤ nb ∧ Hid (runM i (fs.drop k) cur = M) ∧ Hid (RtIn w wr gf gl nb (frI fs j) ((llS fs (j + 1)).set j cur)))
        case atStart => exact ⟨j + 1, 0, by omega, by omega, by omega, rfl, by omega, hM0, HR6⟩
        case round =>
          clear HR6
          obtain ⟨k, cur, hg2, hjk, hkn, rfl, hcb, hrun, HR7⟩ := hrel
          have e1 : ((llS fs (j + 1)).set j cur)[j]? = some cur := by rw [List.getElem?_set, if_pos rfl, if_pos (by omega)]
          have k3 := K.cell HR7.out.lo e1
          have k4 := K.free HR7.out.lo j
          have k5 := I.cell HR7.out.fr (frI_at HX.out (Nat.le_refl j))
          simp only [oldZ] at k5
          have hgl := HR7.out.lo.lt (g := gl) rfl
          have hgf := HR7.out.fr.lt (g := gf) rfl
          have d1 : (0 : Int) ≤ (k : Int) := Int.natCast_nonneg _
          by_cases hlt : k < nb
          · have d2 : (k : Int) < (nb : Int) := by omega
            obtain ⟨o', ho'⟩ : ∃ o', fs[k]? = some o' := ⟨_, List.getElem?_eq_getElem (by rw [hfl.out]; omega)⟩
            obtain ⟨gg, hgg, hgb⟩ := lng_at (fs := fs) (j := k) (by rw [hfl.out]; omega)
            rw [hfl.out] at hgb
            have k6 := I.cell HR7.out.fr (frI_at ho' (show j ≤ k by omega))
            have k7 := K.cell HR7.out.lo (j := k) (x := gg) (by rw [List.getElem?_set, if_neg (by omega)]; exact llS_at hgg (by omega))
            have hst := runM_step (i := i) ho' hgg cur
            rw [hrun.out] at hst
            have HST := Lib.hid hst.symm
            have w4 : IntKind.i64.wrap ((k : Int) + 1) = ((k + 1 : Nat) : Int) := by rw [IntWalk.i64_in _ (by omega)]; omega
            have E7 : Hid (((llS fs (j + 1)).set j cur)[k]? = some gg) := by rw [Hid, List.getElem?_set, if_neg (by omega)]; exact llS_at hgg (by omega)
            have E1 := Lib.hid e1
            have HRun := Lib.hid hrun.out
            clear hst ho' hgg e1 hrun
            generalize oldZ o' = z at *
            by_cases h1 : (i : Int) < z
            · have h1' : decide ((i : Int) < z) = true := decide_eq_true h1
              by_cases h2 : cur < gg
              · have h2' : decide (cur < gg) = true := decide_eq_true h2
                have h2'' : (cur : Int) < (gg : Int) := by omega
                have HRN : Hid (runM i (fs.drop (k + 1)) gg = M) := by have h := HST.out; rw [if_pos ⟨h1, h2⟩] at h; exact h
                clear HST
                go_wp2_with fail
                refine Uni.region (last := 20) (S := fun w' => Below wr.heap.size wr w') (by kernel_rfl) ((Below.refl _ _).drew) ?_
                try simp only [Act.put, List.setIfInBounds_toArray, List.set_cons_zero, List.set_cons_succ]
                (refine Uni.WU.take (i := 0) (oi := { dst := some 57, op := _, type := _, pos := _, after := _, guard := _ }) (v := ?_) rfl (by kernel_rfl) (by kernel_rfl) (by decide) (by kernel_rfl) (by kernel_rfl) (Uni.Uni.run (by kernel_rfl) (by intro W' hS'; obtain ⟨hq1, hq2⟩ := EdC.bcellD hS'; go_simp; try with_reducible rfl)) ?_; (try simp only [Act.put, List.setIfInBounds_toArray, List.set_cons_zero, List.set_cons_succ]))
                (refine Uni.WU.take (i := 1) (oi := { dst := some 58, op := _, type := _, pos := _, after := _, guard := _ }) (v := ?_) rfl (by kernel_rfl) (by kernel_rfl) (by decide) (by kernel_rfl) (by kernel_rfl) (Uni.Uni.run (by kernel_rfl) (by intro W' hS'; obtain ⟨hq1, hq2⟩ := EdC.bcellD hS'; go_simp; try with_reducible rfl)) ?_; (try simp only [Act.put, List.setIfInBounds_toArray, List.set_cons_zero, List.set_cons_succ]))
                (refine Uni.WU.take (i := 2) (oi := { dst := some 59, op := _, type := _, pos := _, after := _, guard := _ }) (v := ?_) rfl (by kernel_rfl) (by kernel_rfl) (by decide) (by kernel_rfl) (by kernel_rfl) (Uni.Uni.run (by kernel_rfl) (by intro W' hS'; obtain ⟨hq1, hq2⟩ := EdC.bcellD hS'; go_simp; try with_reducible rfl)) ?_; (try simp only [Act.put, List.setIfInBounds_toArray, List.set_cons_zero, List.set_cons_succ]))
                (refine Uni.WU.take (i := 3) (oi := { dst := some 60, op := _, type := _, pos := _, after := _, guard := _ }) (v := ?_) rfl (by kernel_rfl) (by kernel_rfl) (by decide) (by kernel_rfl) (by kernel_rfl) (Uni.Uni.run (by kernel_rfl) (by intro W' hS'; obtain ⟨hq1, hq2⟩ := EdC.bcellD hS'; go_simp; try with_reducible rfl)) ?_; (try simp only [Act.put, List.setIfInBounds_toArray, List.set_cons_zero, List.set_cons_succ]))
                (refine Uni.WU.take (i := 4) (oi := { dst := some 61, op := _, type := _, pos := _, after := _, guard := _ }) (v := ?_) rfl (by kernel_rfl) (by kernel_rfl) (by decide) (by kernel_rfl) (by kernel_rfl) (Uni.Uni.run (by kernel_rfl) (by intro W' hS'; obtain ⟨hq1, hq2⟩ := EdC.bcellD hS'; go_simp; try with_reducible rfl)) ?_; (try simp only [Act.put, List.setIfInBounds_toArray, List.set_cons_zero, List.set_cons_succ]))
                (refine Uni.WU.take (i := 5) (oi := { dst := some 62, op := _, type := _, pos := _, after := _, guard := _ }) (v := ?_) rfl (by kernel_rfl) (by kernel_rfl) (by decide) (by kernel_rfl) (by kernel_rfl) (Uni.Uni.run (by kernel_rfl) (by intro W' hS'; obtain ⟨hq1, hq2⟩ := EdC.bcellD hS'; go_simp; try with_reducible rfl)) ?_; (try simp only [Act.put, List.setIfInBounds_toArray, List.set_cons_zero, List.set_cons_succ]))
                (refine Uni.WU.take (i := 6) (oi := { dst := some 63, op := _, type := _, pos := _, after := _, guard := _ }) (v := ?_) rfl (by kernel_rfl) (by kernel_rfl) (by decide) (by kernel_rfl) (by kernel_rfl) (Uni.Uni.run (by kernel_rfl) (by intro W' hS'; obtain ⟨hq1, hq2⟩ := EdC.bcellD hS'; go_simp; try with_reducible rfl)) ?_; (try simp only [Act.put, List.setIfInBounds_toArray, List.set_cons_zero, List.set_cons_succ]))
                (refine Uni.WU.take (i := 7) (oi := { dst := some 64, op := _, type := _, pos := _, after := _, guard := _ }) (v := ?_) rfl (by kernel_rfl) (by kernel_rfl) (by decide) (by kernel_rfl) (by kernel_rfl) (Uni.Uni.run (by kernel_rfl) (by intro W' hS'; obtain ⟨hq1, hq2⟩ := EdC.bcellD hS'; go_simp; try with_reducible rfl)) ?_; (try simp only [Act.put, List.setIfInBounds_toArray, List.set_cons_zero, List.set_cons_succ]))
                (refine Uni.WU.take (i := 8) (oi := { dst := some 65, op := _, type := _, pos := _, after := _, guard := _ }) (v := ?_) rfl (by kernel_rfl) (by kernel_rfl) (by decide) (by kernel_rfl) (by kernel_rfl) (Uni.Uni.run (by kernel_rfl) (by intro W' hS'; obtain ⟨hq1, hq2⟩ := EdC.bcellD hS'; go_simp; try with_reducible rfl)) ?_; (try simp only [Act.put, List.setIfInBounds_toArray, List.set_cons_zero, List.set_cons_succ]))
                (refine Uni.WU.take (i := 9) (oi := { dst := some 66, op := _, type := _, pos := _, after := _, guard := _ }) (v := ?_) rfl (by kernel_rfl) (by kernel_rfl) (by decide) (by kernel_rfl) (by kernel_rfl) (Uni.Uni.run (by kernel_rfl) (by intro W' hS'; obtain ⟨hq1, hq2⟩ := EdC.bcellD hS'; go_simp; try with_reducible rfl)) ?_; (try simp only [Act.put, List.setIfInBounds_toArray, List.set_cons_zero, List.set_cons_succ]))
                (refine Uni.WU.take (i := 10) (oi := { dst := some 67, op := _, type := _, pos := _, after := _, guard := _ }) (v := ?_) rfl (by kernel_rfl) (by kernel_rfl) (by decide) (by kernel_rfl) (by kernel_rfl) (Uni.Uni.run (by kernel_rfl) (by intro W' hS'; obtain ⟨hq1, hq2⟩ := EdC.bcellD hS'; go_simp; try with_reducible rfl)) ?_; (try simp only [Act.put, List.setIfInBounds_toArray, List.set_cons_zero, List.set_cons_succ]))
                (refine Uni.WU.take (i := 11) (oi := { dst := some 68, op := _, type := _, pos := _, after := _, guard := _ }) (v := ?_) rfl (by kernel_rfl) (by kernel_rfl) (by decide) (by kernel_rfl) (by kernel_rfl) (Uni.Uni.run (by kernel_rfl) (by intro W' hS'; obtain ⟨hq1, hq2⟩ := EdC.bcellD hS'; go_simp; try with_reducible rfl)) ?_; (try simp only [Act.put, List.setIfInBounds_toArray, List.set_cons_zero, List.set_cons_succ]))
                (refine Uni.WU.take (i := 12) (oi := { dst := some 69, op := _, type := _, pos := _, after := _, guard := _ }) (v := ?_) rfl (by kernel_rfl) (by kernel_rfl) (by decide) (by kernel_rfl) (by kernel_rfl) (Uni.Uni.run (by kernel_rfl) (by intro W' hS'; obtain ⟨hq1, hq2⟩ := EdC.bcellD hS'; go_simp; try with_reducible rfl)) ?_; (try simp only [Act.put, List.setIfInBounds_toArray, List.set_cons_zero, List.set_cons_succ]))
                (refine Uni.WU.take (i := 13) (oi := { dst := some 70, op := _, type := _, pos := _, after := _, guard := _ }) (v := ?_) rfl (by kernel_rfl) (by kernel_rfl) (by decide) (by kernel_rfl) (by kernel_rfl) (Uni.Uni.run (by kernel_rfl) (by intro W' hS'; obtain ⟨hq1, hq2⟩ := EdC.bcellD hS'; go_simp; try with_reducible rfl)) ?_; (try simp only [Act.put, List.setIfInBounds_toArray, List.set_cons_zero, List.set_cons_succ]))
                (refine Uni.WU.take (i := 14) (oi := { dst := some 71, op := _, type := _, pos := _, after := _, guard := _ }) (v := ?_) rfl (by kernel_rfl) (by kernel_rfl) (by decide) (by kernel_rfl) (by kernel_rfl) (Uni.Uni.run (by kernel_rfl) (by intro W' hS'; obtain ⟨hq1, hq2⟩ := EdC.bcellD hS'; go_simp; try with_reducible rfl)) ?_; (try simp only [Act.put, List.setIfInBounds_toArray, List.set_cons_zero, List.set_cons_succ]))
                (refine Uni.WU.take (i := 15) (oi := { dst := some 72, op := _, type := _, pos := _, after := _, guard := _ }) (v := ?_) rfl (by kernel_rfl) (by kernel_rfl) (by decide) (by kernel_rfl) (by kernel_rfl) (Uni.Uni.run (by kernel_rfl) (by intro W' hS'; obtain ⟨hq1, hq2⟩ := EdC.bcellD hS'; go_simp; try with_reducible rfl)) ?_; (try simp only [Act.put, List.setIfInBounds_toArray, List.set_cons_zero, List.set_cons_succ]))
                (refine Uni.WU.take (i := 16) (oi := { dst := some 73, op := _, type := _, pos := _, after := _, guard := _ }) (v := ?_) rfl (by kernel_rfl) (by kernel_rfl) (by decide) (by kernel_rfl) (by kernel_rfl) (Uni.Uni.run (by kernel_rfl) (by intro W' hS'; obtain ⟨hq1, hq2⟩ := EdC.bcellD hS'; go_simp; try with_reducible rfl)) ?_; (try simp only [Act.put, List.setIfInBounds_toArray, List.set_cons_zero, List.set_cons_succ]))
                (refine Uni.WU.take (i := 17) (oi := { dst := some 74, op := _, type := _, pos := _, after := _, guard := _ }) (v := ?_) rfl (by kernel_rfl) (by kernel_rfl) (by decide) (by kernel_rfl) (by kernel_rfl) (Uni.Uni.run (by kernel_rfl) (by intro W' hS'; obtain ⟨hq1, hq2⟩ := EdC.bcellD hS'; go_simp; try with_reducible rfl)) ?_; (try simp only [Act.put, List.setIfInBounds_toArray, List.set_cons_zero, List.set_cons_succ]))
                (refine Uni.WU.take (i := 18) (oi := { dst := some 75, op := _, type := _, pos := _, after := _, guard := _ }) (v := ?_) rfl (by kernel_rfl) (by kernel_rfl) (by decide) (by kernel_rfl) (by kernel_rfl) (Uni.Uni.run (by kernel_rfl) (by intro W' hS'; obtain ⟨hq1, hq2⟩ := EdC.bcellD hS'; go_simp; try with_reducible rfl)) ?_; (try simp only [Act.put, List.setIfInBounds_toArray, List.set_cons_zero, List.set_cons_succ]))
                (refine Uni.WU.take (i := 19) (oi := { dst := some 76, op := _, type := _, pos := _, after := _, guard := _ }) (v := ?_) rfl (by kernel_rfl) (by kernel_rfl) (by decide) (by kernel_rfl) (by kernel_rfl) (Uni.Uni.run (by kernel_rfl) (by intro W' hS'; obtain ⟨hq1, hq2⟩ := EdC.bcellD hS'; go_simp; try with_reducible rfl)) ?_; (try simp only [Act.put, List.setIfInBounds_toArray, List.set_cons_zero, List.set_cons_succ]))
                refine Uni.WU.done (by kernel_rfl) (fun w8 hB8 => ?_) _
                have h8 := HR7.out.ext hB8
                have m7 := K.cell h8.lo E7.out
                have m3 := K.cell h8.lo E1.out
                have m4 := K.free h8.lo j
                have h9 := h8.setl (j := j) (by rw [List.length_set]; omega) gg
                rw [List.set_set] at h9
                have HR9 := Lib.hid h9
                clear h8 h9 hB8 k3 k4 k5 k6 k7
                go_wp2
                go_roundg (gk - 1)
                case measure => omega
                case rel => exact ⟨k + 1, gg, by omega, by omega, by omega, by go_num, hgb, HRN, HR9⟩
              · have h2' : decide (cur < gg) = false := decide_eq_false h2
                have HRN : Hid (runM i (fs.drop (k + 1)) cur = M) := by have h := HST.out; rw [if_neg (fun h => h2 h.2)] at h; exact h
                clear HST
                go_wp2_with fail
                refine Uni.region (last := 20) (S := fun w' => Below wr.heap.size wr w') (by kernel_rfl) ((Below.refl _ _).drew) ?_
                try simp only [Act.put, List.setIfInBounds_toArray, List.set_cons_zero, List.set_cons_succ]
                (refine Uni.WU.take (i := 0) (oi := { dst := some 57, op := _, type := _, pos := _, after := _, guard := _ }) (v := ?_) rfl (by kernel_rfl) (by kernel_rfl) (by decide) (by kernel_rfl) (by kernel_rfl) (Uni.Uni.run (by kernel_rfl) (by intro W' hS'; obtain ⟨hq1, hq2⟩ := EdC.bcellD hS'; go_simp; try with_reducible rfl)) ?_; (try simp only [Act.put, List.setIfInBounds_toArray, List.set_cons_zero, List.set_cons_succ]))
                (refine Uni.WU.take (i := 1) (oi := { dst := some 58, op := _, type := _, pos := _, after := _, guard := _ }) (v := ?_) rfl (by kernel_rfl) (by kernel_rfl) (by decide) (by kernel_rfl) (by kernel_rfl) (Uni.Uni.run (by kernel_rfl) (by intro W' hS'; obtain ⟨hq1, hq2⟩ := EdC.bcellD hS'; go_simp; try with_reducible rfl)) ?_; (try simp only [Act.put, List.setIfInBounds_toArray, List.set_cons_zero, List.set_cons_succ]))
                (refine Uni.WU.take (i := 2) (oi := { dst := some 59, op := _, type := _, pos := _, after := _, guard := _ }) (v := ?_) rfl (by kernel_rfl) (by kernel_rfl) (by decide) (by kernel_rfl) (by kernel_rfl) (Uni.Uni.run (by kernel_rfl) (by intro W' hS'; obtain ⟨hq1, hq2⟩ := EdC.bcellD hS'; go_simp; try with_reducible rfl)) ?_; (try simp only [Act.put, List.setIfInBounds_toArray, List.set_cons_zero, List.set_cons_succ]))
                (refine Uni.WU.take (i := 3) (oi := { dst := some 60, op := _, type := _, pos := _, after := _, guard := _ }) (v := ?_) rfl (by kernel_rfl) (by kernel_rfl) (by decide) (by kernel_rfl) (by kernel_rfl) (Uni.Uni.run (by kernel_rfl) (by intro W' hS'; obtain ⟨hq1, hq2⟩ := EdC.bcellD hS'; go_simp; try with_reducible rfl)) ?_; (try simp only [Act.put, List.setIfInBounds_toArray, List.set_cons_zero, List.set_cons_succ]))
                (refine Uni.WU.take (i := 4) (oi := { dst := some 61, op := _, type := _, pos := _, after := _, guard := _ }) (v := ?_) rfl (by kernel_rfl) (by kernel_rfl) (by decide) (by kernel_rfl) (by kernel_rfl) (Uni.Uni.run (by kernel_rfl) (by intro W' hS'; obtain ⟨hq1, hq2⟩ := EdC.bcellD hS'; go_simp; try with_reducible rfl)) ?_; (try simp only [Act.put, List.setIfInBounds_toArray, List.set_cons_zero, List.set_cons_succ]))
                (refine Uni.WU.take (i := 5) (oi := { dst := some 62, op := _, type := _, pos := _, after := _, guard := _ }) (v := ?_) rfl (by kernel_rfl) (by kernel_rfl) (by decide) (by kernel_rfl) (by kernel_rfl) (Uni.Uni.run (by kernel_rfl) (by intro W' hS'; obtain ⟨hq1, hq2⟩ := EdC.bcellD hS'; go_simp; try with_reducible rfl)) ?_; (try simp only [Act.put, List.setIfInBounds_toArray, List.set_cons_zero, List.set_cons_succ]))
                (refine Uni.WU.take (i := 6) (oi := { dst := some 63, op := _, type := _, pos := _, after := _, guard := _ }) (v := ?_) rfl (by kernel_rfl) (by kernel_rfl) (by decide) (by kernel_rfl) (by kernel_rfl) (Uni.Uni.run (by kernel_rfl) (by intro W' hS'; obtain ⟨hq1, hq2⟩ := EdC.bcellD hS'; go_simp; try with_reducible rfl)) ?_; (try simp only [Act.put, List.setIfInBounds_toArray, List.set_cons_zero, List.set_cons_succ]))
                (refine Uni.WU.take (i := 7) (oi := { dst := some 64, op := _, type := _, pos := _, after := _, guard := _ }) (v := ?_) rfl (by kernel_rfl) (by kernel_rfl) (by decide) (by kernel_rfl) (by kernel_rfl) (Uni.Uni.run (by kernel_rfl) (by intro W' hS'; obtain ⟨hq1, hq2⟩ := EdC.bcellD hS'; go_simp; try with_reducible rfl)) ?_; (try simp only [Act.put, List.setIfInBounds_toArray, List.set_cons_zero, List.set_cons_succ]))
                (refine Uni.WU.take (i := 8) (oi := { dst := some 65, op := _, type := _, pos := _, after := _, guard := _ }) (v := ?_) rfl (by kernel_rfl) (by kernel_rfl) (by decide) (by kernel_rfl) (by kernel_rfl) (Uni.Uni.run (by kernel_rfl) (by intro W' hS'; obtain ⟨hq1, hq2⟩ := EdC.bcellD hS'; go_simp; try with_reducible rfl)) ?_; (try simp only [Act.put, List.setIfInBounds_toArray, List.set_cons_zero, List.set_cons_succ]))
                (refine Uni.WU.take (i := 9) (oi := { dst := some 66, op := _, type := _, pos := _, after := _, guard := _ }) (v := ?_) rfl (by kernel_rfl) (by kernel_rfl) (by decide) (by kernel_rfl) (by kernel_rfl) (Uni.Uni.run (by kernel_rfl) (by intro W' hS'; obtain ⟨hq1, hq2⟩ := EdC.bcellD hS'; go_simp; try with_reducible rfl)) ?_; (try simp only [Act.put, List.setIfInBounds_toArray, List.set_cons_zero, List.set_cons_succ]))
                (refine Uni.WU.take (i := 10) (oi := { dst := some 67, op := _, type := _, pos := _, after := _, guard := _ }) (v := ?_) rfl (by kernel_rfl) (by kernel_rfl) (by decide) (by kernel_rfl) (by kernel_rfl) (Uni.Uni.run (by kernel_rfl) (by intro W' hS'; obtain ⟨hq1, hq2⟩ := EdC.bcellD hS'; go_simp; try with_reducible rfl)) ?_; (try simp only [Act.put, List.setIfInBounds_toArray, List.set_cons_zero, List.set_cons_succ]))
                (refine Uni.WU.take (i := 11) (oi := { dst := some 68, op := _, type := _, pos := _, after := _, guard := _ }) (v := ?_) rfl (by kernel_rfl) (by kernel_rfl) (by decide) (by kernel_rfl) (by kernel_rfl) (Uni.Uni.run (by kernel_rfl) (by intro W' hS'; obtain ⟨hq1, hq2⟩ := EdC.bcellD hS'; go_simp; try with_reducible rfl)) ?_; (try simp only [Act.put, List.setIfInBounds_toArray, List.set_cons_zero, List.set_cons_succ]))
                (refine Uni.WU.take (i := 12) (oi := { dst := some 69, op := _, type := _, pos := _, after := _, guard := _ }) (v := ?_) rfl (by kernel_rfl) (by kernel_rfl) (by decide) (by kernel_rfl) (by kernel_rfl) (Uni.Uni.run (by kernel_rfl) (by intro W' hS'; obtain ⟨hq1, hq2⟩ := EdC.bcellD hS'; go_simp; try with_reducible rfl)) ?_; (try simp only [Act.put, List.setIfInBounds_toArray, List.set_cons_zero, List.set_cons_succ]))
                (refine Uni.WU.take (i := 13) (oi := { dst := some 70, op := _, type := _, pos := _, after := _, guard := _ }) (v := ?_) rfl (by kernel_rfl) (by kernel_rfl) (by decide) (by kernel_rfl) (by kernel_rfl) (Uni.Uni.run (by kernel_rfl) (by intro W' hS'; obtain ⟨hq1, hq2⟩ := EdC.bcellD hS'; go_simp; try with_reducible rfl)) ?_; (try simp only [Act.put, List.setIfInBounds_toArray, List.set_cons_zero, List.set_cons_succ]))
                (refine Uni.WU.take (i := 14) (oi := { dst := some 71, op := _, type := _, pos := _, after := _, guard := _ }) (v := ?_) rfl (by kernel_rfl) (by kernel_rfl) (by decide) (by kernel_rfl) (by kernel_rfl) (Uni.Uni.run (by kernel_rfl) (by intro W' hS'; obtain ⟨hq1, hq2⟩ := EdC.bcellD hS'; go_simp; try with_reducible rfl)) ?_; (try simp only [Act.put, List.setIfInBounds_toArray, List.set_cons_zero, List.set_cons_succ]))
                (refine Uni.WU.take (i := 15) (oi := { dst := some 72, op := _, type := _, pos := _, after := _, guard := _ }) (v := ?_) rfl (by kernel_rfl) (by kernel_rfl) (by decide) (by kernel_rfl) (by kernel_rfl) (Uni.Uni.run (by kernel_rfl) (by intro W' hS'; obtain ⟨hq1, hq2⟩ := EdC.bcellD hS'; go_simp; try with_reducible rfl)) ?_; (try simp only [Act.put, List.setIfInBounds_toArray, List.set_cons_zero, List.set_cons_succ]))
                (refine Uni.WU.take (i := 16) (oi := { dst := some 73, op := _, type := _, pos := _, after := _, guard := _ }) (v := ?_) rfl (by kernel_rfl) (by kernel_rfl) (by decide) (by kernel_rfl) (by kernel_rfl) (Uni.Uni.run (by kernel_rfl) (by intro W' hS'; obtain ⟨hq1, hq2⟩ := EdC.bcellD hS'; go_simp; try with_reducible rfl)) ?_; (try simp only [Act.put, List.setIfInBounds_toArray, List.set_cons_zero, List.set_cons_succ]))
                (refine Uni.WU.take (i := 17) (oi := { dst := some 74, op := _, type := _, pos := _, after := _, guard := _ }) (v := ?_) rfl (by kernel_rfl) (by kernel_rfl) (by decide) (by kernel_rfl) (by kernel_rfl) (Uni.Uni.run (by kernel_rfl) (by intro W' hS'; obtain ⟨hq1, hq2⟩ := EdC.bcellD hS'; go_simp; try with_reducible rfl)) ?_; (try simp only [Act.put, List.setIfInBounds_toArray, List.set_cons_zero, List.set_cons_succ]))
                (refine Uni.WU.take (i := 18) (oi := { dst := some 75, op := _, type := _, pos := _, after := _, guard := _ }) (v := ?_) rfl (by kernel_rfl) (by kernel_rfl) (by decide) (by kernel_rfl) (by kernel_rfl) (Uni.Uni.run (by kernel_rfl) (by intro W' hS'; obtain ⟨hq1, hq2⟩ := EdC.bcellD hS'; go_simp; try with_reducible rfl)) ?_; (try simp only [Act.put, List.setIfInBounds_toArray, List.set_cons_zero, List.set_cons_succ]))
                (refine Uni.WU.take (i := 19) (oi := { dst := some 76, op := _, type := _, pos := _, after := _, guard := _ }) (v := ?_) rfl (by kernel_rfl) (by kernel_rfl) (by decide) (by kernel_rfl) (by kernel_rfl) (Uni.Uni.run (by kernel_rfl) (by intro W' hS'; obtain ⟨hq1, hq2⟩ := EdC.bcellD hS'; go_simp; try with_reducible rfl)) ?_; (try simp only [Act.put, List.setIfInBounds_toArray, List.set_cons_zero, List.set_cons_succ]))
                refine Uni.WU.done (by kernel_rfl) (fun w8 hB8 => ?_) _
                have HR9 := Lib.hid (HR7.out.ext hB8)
                clear hB8 k3 k4 k5 k6 k7
                go_wp2
                go_roundg (gk - 1)
                case measure => omega
                case rel => exact ⟨k + 1, cur, by omega, by omega, by omega, by go_num, hcb, HRN, HR9⟩
            · have h1' : decide ((i : Int) < z) = false := decide_eq_false h1
              have HRN : Hid (runM i (fs.drop (k + 1)) cur = M) := by have h := HST.out; rw [if_neg (fun h => h1 h.1)] at h; exact h
              clear HST
              go_wp2_with fail
              refine Uni.region (last := 20) (S := fun w' => Below wr.heap.size wr w') (by kernel_rfl) ((Below.refl _ _).drew) ?_
              try simp only [Act.put, List.setIfInBounds_toArray, List.set_cons_zero, List.set_cons_succ]
              (refine Uni.WU.take (i := 0) (oi := { dst := some 57, op := _, type := _, pos := _, after := _, guard := _ }) (v := ?_) rfl (by kernel_rfl) (by kernel_rfl) (by decide) (by kernel_rfl) (by kernel_rfl) (Uni.Uni.run (by kernel_rfl) (by intro W' hS'; obtain ⟨hq1, hq2⟩ := EdC.bcellD hS'; go_simp; try with_reducible rfl)) ?_; (try simp only [Act.put, List.setIfInBounds_toArray, List.set_cons_zero, List.set_cons_succ]))
              (refine Uni.WU.take (i := 1) (oi := { dst := some 58, op := _, type := _, pos := _, after := _, guard := _ }) (v := ?_) rfl (by kernel_rfl) (by kernel_rfl) (by decide) (by kernel_rfl) (by kernel_rfl) (Uni.Uni.run (by kernel_rfl) (by intro W' hS'; obtain ⟨hq1, hq2⟩ := EdC.bcellD hS'; go_simp; try with_reducible rfl)) ?_; (try simp only [Act.put, List.setIfInBounds_toArray, List.set_cons_zero, List.set_cons_succ]))
              (refine Uni.WU.take (i := 2) (oi := { dst := some 59, op := _, type := _, pos := _, after := _, guard := _ }) (v := ?_) rfl (by kernel_rfl) (by kernel_rfl) (by decide) (by kernel_rfl) (by kernel_rfl) (Uni.Uni.run (by kernel_rfl) (by intro W' hS'; obtain ⟨hq1, hq2⟩ := EdC.bcellD hS'; go_simp; try with_reducible rfl)) ?_; (try simp only [Act.put, List.setIfInBounds_toArray, List.set_cons_zero, List.set_cons_succ]))
              (refine Uni.WU.take (i := 3) (oi := { dst := some 60, op := _, type := _, pos := _, after := _, guard := _ }) (v := ?_) rfl (by kernel_rfl) (by kernel_rfl) (by decide) (by kernel_rfl) (by kernel_rfl) (Uni.Uni.run (by kernel_rfl) (by intro W' hS'; obtain ⟨hq1, hq2⟩ := EdC.bcellD hS'; go_simp; try with_reducible rfl)) ?_; (try simp only [Act.put, List.setIfInBounds_toArray, List.set_cons_zero, List.set_cons_succ]))
              (refine Uni.WU.take (i := 4) (oi := { dst := some 61, op := _, type := _, pos := _, after := _, guard := _ }) (v := ?_) rfl (by kernel_rfl) (by kernel_rfl) (by decide) (by kernel_rfl) (by kernel_rfl) (Uni.Uni.run (by kernel_rfl) (by intro W' hS'; obtain ⟨hq1, hq2⟩ := EdC.bcellD hS'; go_simp; try with_reducible rfl)) ?_; (try simp only [Act.put, List.setIfInBounds_toArray, List.set_cons_zero, List.set_cons_succ]))
              (refine Uni.WU.take (i := 5) (oi := { dst := some 62, op := _, type := _, pos := _, after := _, guard := _ }) (v := ?_) rfl (by kernel_rfl) (by kernel_rfl) (by decide) (by kernel_rfl) (by kernel_rfl) (Uni.Uni.run (by kernel_rfl) (by intro W' hS'; obtain ⟨hq1, hq2⟩ := EdC.bcellD hS'; go_simp; try with_reducible rfl)) ?_; (try simp only [Act.put, List.setIfInBounds_toArray, List.set_cons_zero, List.set_cons_succ]))
              (refine Uni.WU.take (i := 6) (oi := { dst := some 63, op := _, type := _, pos := _, after := _, guard := _ }) (v := ?_) rfl (by kernel_rfl) (by kernel_rfl) (by decide) (by kernel_rfl) (by kernel_rfl) (Uni.Uni.run (by kernel_rfl) (by intro W' hS'; obtain ⟨hq1, hq2⟩ := EdC.bcellD hS'; go_simp; try with_reducible rfl)) ?_; (try simp only [Act.put, List.setIfInBounds_toArray, List.set_cons_zero, List.set_cons_succ]))
              (refine Uni.WU.take (i := 7) (oi := { dst := some 64, op := _, type := _, pos := _, after := _, guard := _ }) (v := ?_) rfl (by kernel_rfl) (by kernel_rfl) (by decide) (by kernel_rfl) (by kernel_rfl) (Uni.Uni.run (by kernel_rfl) (by intro W' hS'; obtain ⟨hq1, hq2⟩ := EdC.bcellD hS'; go_simp; try with_reducible rfl)) ?_; (try simp only [Act.put, List.setIfInBounds_toArray, List.set_cons_zero, List.set_cons_succ]))
              (refine Uni.WU.take (i := 8) (oi := { dst := some 65, op := _, type := _, pos := _, after := _, guard := _ }) (v := ?_) rfl (by kernel_rfl) (by kernel_rfl) (by decide) (by kernel_rfl) (by kernel_rfl) (Uni.Uni.run (by kernel_rfl) (by intro W' hS'; obtain ⟨hq1, hq2⟩ := EdC.bcellD hS'; go_simp; try with_reducible rfl)) ?_; (try simp only [Act.put, List.setIfInBounds_toArray, List.set_cons_zero, List.set_cons_succ]))
              (refine Uni.WU.take (i := 9) (oi := { dst := some 66, op := _, type := _, pos := _, after := _, guard := _ }) (v := ?_) rfl (by kernel_rfl) (by kernel_rfl) (by decide) (by kernel_rfl) (by kernel_rfl) (Uni.Uni.run (by kernel_rfl) (by intro W' hS'; obtain ⟨hq1, hq2⟩ := EdC.bcellD hS'; go_simp; try with_reducible rfl)) ?_; (try simp only [Act.put, List.setIfInBounds_toArray, List.set_cons_zero, List.set_cons_succ]))
              (refine Uni.WU.take (i := 10) (oi := { dst := some 67, op := _, type := _, pos := _, after := _, guard := _ }) (v := undef) rfl (by kernel_rfl) (by kernel_rfl) (by decide) (by kernel_rfl) (by kernel_rfl) (Uni.Uni.skip (by kernel_rfl)) ?_; (try simp only [Act.put, List.setIfInBounds_toArray, List.set_cons_zero, List.set_cons_succ]))
              (refine Uni.WU.take (i := 11) (oi := { dst := some 68, op := _, type := _, pos := _, after := _, guard := _ }) (v := undef) rfl (by kernel_rfl) (by kernel_rfl) (by decide) (by kernel_rfl) (by kernel_rfl) (Uni.Uni.skip (by kernel_rfl)) ?_; (try simp only [Act.put, List.setIfInBounds_toArray, List.set_cons_zero, List.set_cons_succ]))
              (refine Uni.WU.take (i := 12) (oi := { dst := some 69, op := _, type := _, pos := _, after := _, guard := _ }) (v := undef) rfl (by kernel_rfl) (by kernel_rfl) (by decide) (by kernel_rfl) (by kernel_rfl) (Uni.Uni.skip (by kernel_rfl)) ?_; (try simp only [Act.put, List.setIfInBounds_toArray, List.set_cons_zero, List.set_cons_succ]))
              (refine Uni.WU.take (i := 13) (oi := { dst := some 70, op := _, type := _, pos := _, after := _, guard := _ }) (v := undef) rfl (by kernel_rfl) (by kernel_rfl) (by decide) (by kernel_rfl) (by kernel_rfl) (Uni.Uni.skip (by kernel_rfl)) ?_; (try simp only [Act.put, List.setIfInBounds_toArray, List.set_cons_zero, List.set_cons_succ]))
              (refine Uni.WU.take (i := 14) (oi := { dst := some 71, op := _, type := _, pos := _, after := _, guard := _ }) (v := undef) rfl (by kernel_rfl) (by kernel_rfl) (by decide) (by kernel_rfl) (by kernel_rfl) (Uni.Uni.skip (by kernel_rfl)) ?_; (try simp only [Act.put, List.setIfInBounds_toArray, List.set_cons_zero, List.set_cons_succ]))
              (refine Uni.WU.take (i := 15) (oi := { dst := some 72, op := _, type := _, pos := _, after := _, guard := _ }) (v := undef) rfl (by kernel_rfl) (by kernel_rfl) (by decide) (by kernel_rfl) (by kernel_rfl) (Uni.Uni.skip (by kernel_rfl)) ?_; (try simp only [Act.put, List.setIfInBounds_toArray, List.set_cons_zero, List.set_cons_succ]))
              (refine Uni.WU.take (i := 16) (oi := { dst := some 73, op := _, type := _, pos := _, after := _, guard := _ }) (v := undef) rfl (by kernel_rfl) (by kernel_rfl) (by decide) (by kernel_rfl) (by kernel_rfl) (Uni.Uni.skip (by kernel_rfl)) ?_; (try simp only [Act.put, List.setIfInBounds_toArray, List.set_cons_zero, List.set_cons_succ]))
              (refine Uni.WU.take (i := 17) (oi := { dst := some 74, op := _, type := _, pos := _, after := _, guard := _ }) (v := undef) rfl (by kernel_rfl) (by kernel_rfl) (by decide) (by kernel_rfl) (by kernel_rfl) (Uni.Uni.skip (by kernel_rfl)) ?_; (try simp only [Act.put, List.setIfInBounds_toArray, List.set_cons_zero, List.set_cons_succ]))
              (refine Uni.WU.take (i := 18) (oi := { dst := some 75, op := _, type := _, pos := _, after := _, guard := _ }) (v := undef) rfl (by kernel_rfl) (by kernel_rfl) (by decide) (by kernel_rfl) (by kernel_rfl) (Uni.Uni.skip (by kernel_rfl)) ?_; (try simp only [Act.put, List.setIfInBounds_toArray, List.set_cons_zero, List.set_cons_succ]))
              (refine Uni.WU.take (i := 19) (oi := { dst := some 76, op := _, type := _, pos := _, after := _, guard := _ }) (v := ?_) rfl (by kernel_rfl) (by kernel_rfl) (by decide) (by kernel_rfl) (by kernel_rfl) (Uni.Uni.run (by kernel_rfl) (by intro W' hS'; obtain ⟨hq1, hq2⟩ := EdC.bcellD hS'; go_simp; try with_reducible rfl)) ?_; (try simp only [Act.put, List.setIfInBounds_toArray, List.set_cons_zero, List.set_cons_succ]))
              refine Uni.WU.done (by kernel_rfl) (fun w8 hB8 => ?_) _
              have HR9 := Lib.hid (HR7.out.ext hB8)
              clear hB8 k3 k4 k5 k6 k7
              go_wp2
              go_roundg (gk - 1)
              case measure => omega
              case rel => exact ⟨k + 1, cur, by omega, by omega, by omega, by go_num, hcb, HRN, HR9⟩
          · have hcM : cur = M := by
              have h := hrun.out
              rw [List.drop_of_length_le (by rw [hfl.out]; omega)] at h
              exact h
            subst hcM
            obtain ⟨L, hL⟩ : ∃ L, cur + 1 = L := ⟨_, rfl⟩
            have w4 : IntKind.i64.wrap ((cur : Int) + 1) = (L : Int) := by rw [IntWalk.i64_in _ (by omega)]; omega
            have h9 := HR7.out.setl (j := j) (by rw [List.length_set]; omega) L
            rw [List.set_set, ← hL, ← hM.out, llS_some HX.out, hM.out, hL] at h9
            have HR9 := Lib.hid h9
            have HNd : Hid (needOf (fs.drop j) = max nd L) := by rw [Hid, needOf_some HX.out, hnd.out, hM.out, hL]
            clear h9 hL e1 hrun HR7
            by_cases hm : nd < L
            · have hm' : decide (nd < L) = true := decide_eq_true hm
              have HNd : Hid (needOf (fs.drop j) = L) := by rw [Hid, HNd.out]; omega
              go_wp2
              go_roundg (g0 - 1)
              case measure => omega
              case rel => exact ⟨j, L, by omega, by omega, rfl, rfl, HNd, HR9⟩
            · have hm' : decide (nd < L) = false := decide_eq_false hm
              have HNd : Hid (needOf (fs.drop j) = nd) := by rw [Hid, HNd.out]; omega
              go_wp2
              go_roundg (g0 - 1)
              case measure => omega
              case rel => exact ⟨j, nd, by omega, by omega, rfl, rfl, HNd, HR9⟩
theorem rstay_any (a b : List Fr) (A B : Option Addr) (na ca nb cb : Nat) (w : World) (ha : FrSl w w.heap.size A a) (hwa : FrsWf a) (hna : Hid (na = a.length)) (hb : FrSl w w.heap.size B b) (hwb : FrsWf b) (hnb : Hid (nb = b.length)) (h63 : na ≤ maxLen) (m63 : nb ≤ maxLen) :
    Calls Try.prog 51 #[.slice A na ca, .slice B nb cb] w (RetSt w (stayE a b)) := by
  by_cases h0 : chk a = 0
  · by_cases h1 : chk b = 0
    · exact rstay_yes a b A B na ca nb cb w ha hwa hna hb hwb hnb h63 m63 h0 h1
    · exact rstay_no2 a b A B na ca nb cb w ha hwa hna hb hwb hnb h63 m63 h0 h1
  · exact rstay_no1 a b A B na ca nb cb w ha hwa hna h63 h0
end Go.Proofs.Ytiljpbncfofnhaa.Dif
