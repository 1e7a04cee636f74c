/- diff: what the laws ask besides: great, one, tells. -/
import Derived.Test.YtiljpbncfofnhaaDfI
import Derived.Test.YtiljpbncfofnhaaDfL
import Derived.Outline
import Derived.BigQuiet
import Derived.Deep.QuietTactic
import Derived.Deep.RegionWith
import Derived.Deep.RegionHeld3
import Derived.Deep.DrawnRows
import Derived.Deep.LoopGhost
import Derived.Deep.DeepCutAuto
import Derived.Laws.EntriesVeiled
import Derived.BigQuiet
namespace Go.Proofs.Ytiljpbncfofnhaa.Dif
open Go.RowKit Go.ChangeShapes Go.WideShapes Go.ChangeAt
set_option linter.unusedVariables false
set_option linter.unusedSimpArgs false
attribute [local go_sem ↓] Go.wp_at_zero Go.wp_at_succ
open FragA FragB MayA Tree FCheck EdB EdC EdF
/-- are two rows more than is gone through, or no trees? -/
def lawGreat (a b : List Fr) : Bool := greatFrom 0 0 a || (greatFrom 0 0 b || (chk a != 0 || chk b != 0))
theorem slw {α : Type} {c : Nat} {enc : α → List Value} {W1 wr : World} {A : Option Addr} {l : List α} (h : Sl W1 W1.heap.size c enc A l) (hb : Below W1.heap.size W1 wr) : Sl wr wr.heap.size c enc A l := (h.below hb).more hb.size
set_option maxRecDepth 100000 in
theorem lawgreat_any (a b : List Fr) (A B : Option Addr) (na ca nb cb : Nat) (w : World) (ha : FrSl w w.heap.size A a) (hwa : FrsWf a) (hna : Hid (na = a.length)) (hb : FrSl w w.heap.size B b) (hwb : FrsWf b) (hnb : Hid (nb = b.length)) (h63 : na ≤ maxLen) (m63 : nb ≤ maxLen) :
    Calls Try.prog 55 #[.slice A na ca, .slice B nb cb] w fun e w' => e = .returned (.bool (lawGreat a b)) ∧ Below w.heap.size w w' := by
  have G1 := Lib.hid (great_any a A ca w ha (by rw [← hna.out]; exact h63) hwa)
  have G2 := Lib.hid (great_any b B cb w hb (by rw [← hnb.out]; exact m63) hwb)
  have C1 := Lib.hid (FCheck.check_any a A na ca w ha hwa hna)
  have C2 := fun W (hW : Below w.heap.size w W) => Lib.hid (FCheck.check_any b B nb cb W (slw hb hW) hwb hnb)
  rw [← hna.out] at G1
  rw [← hnb.out] at G2
  obtain ⟨r, hr⟩ : ∃ r, Hid (lawGreat a b = r) := ⟨_, rfl⟩
  rw [hr.out]
  obtain ⟨g1, h1⟩ : ∃ g1, greatFrom 0 0 a = g1 := ⟨_, rfl⟩
  obtain ⟨g2, h2⟩ : ∃ g2, greatFrom 0 0 b = g2 := ⟨_, rfl⟩
  obtain ⟨x, hx⟩ : ∃ x, chk a = x := ⟨_, rfl⟩
  obtain ⟨y, hy⟩ : ∃ y, chk b = y := ⟨_, rfl⟩
  have hr' : Hid ((g1 || (g2 || (x != 0 || y != 0))) = r) := by rw [Hid, ← hr.out, lawGreat, h1, h2, hx, hy]
  rw [h1] at G1
  rw [h2] at G2
  rw [hx] at C1
  simp only [hy] at C2
  clear h1 h2 hx hy hr ha hb
  cases g1 with
  | true =>
    have e : true = r := hr'.out
    subst e
    go_enter Try.func55, Try.ntmps55
    go_wp2_with fail
    refine (G1.out).mono ?_; rintro e w' ⟨rfl, rfl⟩
    go_wp2
    go_ret
    exact ⟨rfl, Below.refl _ _⟩
  | false =>
    cases g2 with
    | true =>
      have e : true = r := hr'.out
      subst e
      go_enter Try.func55, Try.ntmps55
      go_wp2_with fail
      refine (G1.out).mono ?_; rintro e w' ⟨rfl, rfl⟩
      go_wp2_with fail
      refine (G2.out).mono ?_; rintro e w' ⟨rfl, rfl⟩
      go_wp2
      go_ret
      exact ⟨rfl, Below.refl _ _⟩
    | false =>
      by_cases hx : x = 0
      · subst hx
        by_cases hy : y = 0
        · subst hy
          have e : false = r := hr'.out
          subst e
          go_enter Try.func55, Try.ntmps55
          go_wp2_with fail
          refine (G1.out).mono ?_; rintro e w' ⟨rfl, rfl⟩
          go_wp2_with fail
          refine (G2.out).mono ?_; rintro e w' ⟨rfl, rfl⟩
          go_wp2_with fail
          refine (C1.out).mono ?_; rintro e w1 ⟨rfl, hb1⟩
          have HB1 := Lib.hid hb1
          clear hb1
          go_wp2_with fail
          refine ((C2 _ HB1.out).out).mono ?_; rintro e w2 ⟨rfl, hb2⟩
          have HB2 := Lib.hid (ext_under HB1.out (Nat.le_refl _) hb2)
          clear hb2
          go_wp2
          go_ret
          exact ⟨rfl, HB2.out⟩
        · have hy1 : (y == 0) = false := by simpa using hy
          have hy2 : (y != 0) = true := by simp [hy]
          have e : true = r := by rw [← hr'.out, hy2]; rfl
          subst e
          clear hy hr'
          go_enter Try.func55, Try.ntmps55
          go_wp2_with fail
          refine (G1.out).mono ?_; rintro e w' ⟨rfl, rfl⟩
          go_wp2_with fail
          refine (G2.out).mono ?_; rintro e w' ⟨rfl, rfl⟩
          go_wp2_with fail
          refine (C1.out).mono ?_; rintro e w1 ⟨rfl, hb1⟩
          have HB1 := Lib.hid hb1
          clear hb1
          go_wp2_with fail
          refine ((C2 _ HB1.out).out).mono ?_; rintro e w2 ⟨rfl, hb2⟩
          have HB2 := Lib.hid (ext_under HB1.out (Nat.le_refl _) hb2)
          clear hb2
          go_wp2
          go_ret
          exact ⟨rfl, HB2.out⟩
      · have hx1 : (x == 0) = false := by simpa using hx
        have hx2 : (x != 0) = true := by simp [hx]
        have e : true = r := by rw [← hr'.out, hx2]; rfl
        subst e
        clear hx hr'
        go_enter Try.func55, Try.ntmps55
        go_wp2_with fail
        refine (G1.out).mono ?_; rintro e w' ⟨rfl, rfl⟩
        go_wp2_with fail
        refine (G2.out).mono ?_; rintro e w' ⟨rfl, rfl⟩
        go_wp2_with fail
        refine (C1.out).mono ?_; rintro e w1 ⟨rfl, hb1⟩
        have HB1 := Lib.hid hb1
        clear hb1
        go_wp2
        go_ret
        exact ⟨rfl, HB1.out⟩
theorem lawgreat_no {a b : List Fr} (h : lawGreat a b = false) : a.length ≤ 200 ∧ b.length ≤ 200 ∧ chk a = 0 ∧ chk b = 0 := by
  simp only [lawGreat, Bool.or_eq_false_iff, bne_eq_false_iff_eq] at h
  exact ⟨great_le h.1, great_le h.2.1, h.2.2.1, h.2.2.2⟩

/-! ### one, tells -/
def oneF (node x : Int) (t : ByteArray) : Fr := ⟨node, 0, if node = 1 then 0 else 1, x, 0, 0, 0, t⟩
set_option maxRecDepth 100000 in
set_option maxHeartbeats 2000000 in
theorem one_any (node x : Int) (t : ByteArray) (w : World) :
    Calls Try.prog 86 #[.int .i64 node, .int .i64 x, .string t] w fun e w' => e = .returned (oneF node x t).agg ∧ Below w.heap.size w w' := by
  by_cases h : node = 1
  · have hE : Hid (oneF node x t = ⟨node, 0, 0, x, 0, 0, 0, t⟩) := by rw [Hid, oneF, if_pos h]
    have h1 : (node == 1) = true := by simpa using h
    clear h
    rw [hE.out]
    unfold Fr.agg
    go_enter Try.func86, Try.ntmps86
    go_wp2
    exact bodyPost_ret (v := .agg #[.int .i64 node, .int .i64 0, .int .i64 0, .int .i64 x, .int .i64 0, .int .i64 0, .int .i64 0, .string t]) (by simp [results, Try.results86, go_sem]) rfl ⟨rfl, (by repeat (first | exact Below.refl _ _ | assumption | refine Below.drew ?_ | refine bdrewN ?_ _ | refine Below.alloc ?_ (by simp; try omega) _ | refine Below.setCell ?_ (by simp; try omega) _))⟩
  · have hE : Hid (oneF node x t = ⟨node, 0, 1, x, 0, 0, 0, t⟩) := by rw [Hid, oneF, if_neg h]
    have h1 : (node == 1) = false := by simpa using h
    clear h
    rw [hE.out]
    unfold Fr.agg
    go_enter Try.func86, Try.ntmps86
    go_wp2
    exact bodyPost_ret (v := .agg #[.int .i64 node, .int .i64 0, .int .i64 1, .int .i64 x, .int .i64 0, .int .i64 0, .int .i64 0, .string t]) (by simp [results, Try.results86, go_sem]) rfl ⟨rfl, (by repeat (first | exact Below.refl _ _ | assumption | refine Below.drew ?_ | refine bdrewN ?_ _ | refine Below.alloc ?_ (by simp; try omega) _ | refine Below.setCell ?_ (by simp; try omega) _))⟩
/-- a row of literal elements -/
theorem flat_lit {α : Type} {enc : α → List Value} {c : Nat} (he : ∀ x, (enc x).length = c) (w : World) (l : List α) (t : TypeId) : Sl (w.alloc (.cells (l.flatMap enc).toArray t)) (w.alloc (.cells (l.flatMap enc).toArray t)).heap.size c enc (some ⟨w.heap.size, 0, none⟩) l :=
  fun _ => ⟨w.heap.size, 0, rfl, by simp, fun k x hx j v hv => by
    have hj : j < c := by rw [← he x]; exact (List.getElem?_eq_some_iff.1 hv).1
    rw [(Blk.new w t _).cell, Nat.zero_add, List.getElem?_toArray, flat_at he l k j x hx hj]
    exact hv⟩
def chA : List Fr := [oneF 1 0 ⟨#[]⟩, oneF 2 0 ⟨#[98]⟩, oneF 3 0 ⟨#[99]⟩]
theorem oneF_wf {node x : Int} {t : ByteArray} (h1 : 0 ≤ node ∧ node ≤ 100) (h2 : 0 ≤ x ∧ x ≤ 100) (h3 : t.size ≤ 100) : (oneF node x t).Wf := by
  have hmin : IntKind.i64.min = -9223372036854775808 := rfl
  have hmax : IntKind.i64.max = 9223372036854775807 := rfl
  have hz : (Lit.int .i64 0).wf = true := by decide
  refine ⟨?_, hz, ?_, ?_, hz, hz, hz, by simp only [oneF]; omega⟩
  · simpa [oneF, Lit.wf, IntKind.min, IntKind.max, IntKind.signed, IntKind.bits] using (show -9223372036854775808 ≤ node ∧ node ≤ 9223372036854775807 by omega)
  · simp only [oneF]; split <;> decide
  · simpa [oneF, Lit.wf, IntKind.min, IntKind.max, IntKind.signed, IntKind.bits] using (show -9223372036854775808 ≤ x ∧ x ≤ 9223372036854775807 by omega)
theorem chA_wf : FrsWf chA := by
  intro f hf
  simp only [chA, List.mem_cons, List.not_mem_nil, or_false] at hf
  rcases hf with rfl | rfl | rfl
  · exact oneF_wf (by decide) (by decide) (by decide)
  · exact oneF_wf (by decide) (by decide) (by decide)
  · exact oneF_wf (by decide) (by decide) (by decide)
set_option maxRecDepth 100000 in
set_option maxHeartbeats 4000000 in
theorem tells_any (b : List Fr) (es : List Ed) (B E : Option Addr) (nb cb ne ce : Nat) (w : World) (hb : FrSl w w.heap.size B b) (hwb : FrsWf b) (hnb : Hid (nb = b.length)) (he : EdSl w w.heap.size E es) (hne : Hid (ne = es.length)) (h63 : ne ≤ maxLen) (hd : Hid (diffE chA b = (es, 0))) :
    Calls Try.prog 87 #[.slice B nb cb, .slice E ne ce] w fun e w' => e = .returned (.bool true) ∧ Below w.heap.size w w' := by
  have HL := Lib.hid (And.intro hb he)
  clear hb he
  obtain ⟨fa, hfa⟩ : ∃ f, Hid (oneF 1 0 ⟨#[]⟩ = f) := ⟨_, rfl⟩
  obtain ⟨fb, hfb⟩ : ∃ f, Hid (oneF 2 0 ⟨#[98]⟩ = f) := ⟨_, rfl⟩
  obtain ⟨fc, hfc⟩ : ∃ f, Hid (oneF 3 0 ⟨#[99]⟩ = f) := ⟨_, rfl⟩
  have O1 := fun W => Lib.hid (one_any 1 0 ⟨#[]⟩ W)
  have O2 := fun W => Lib.hid (one_any 2 0 ⟨#[98]⟩ W)
  have O3 := fun W => Lib.hid (one_any 3 0 ⟨#[99]⟩ W)
  simp only [hfa.out] at O1
  simp only [hfb.out] at O2
  simp only [hfc.out] at O3
  unfold Fr.agg at O1 O2 O3
  have HA := fun W => Lib.hid (flat_lit Fr.cells_len W [fa, fb, fc] 67)
  have hcA : Hid (chA = [fa, fb, fc]) := by rw [Hid, chA, hfa.out, hfb.out, hfc.out]
  have DP := fun W (hW : Below w.heap.size w W) (h : FrSl W W.heap.size (some ⟨W.heap.size - 1, 0, none⟩) [fa, fb, fc]) => Lib.hid (by have h := diff_any chA b (some ⟨W.heap.size - 1, 0, none⟩) B 3 3 nb cb W (by rw [hcA.out]; exact h) chA_wf rfl (slw HL.out.1 hW) hwb hnb; rw [hd.out] at h; exact h)
  go_enter Try.func87, Try.ntmps87
  go_wp2_with fail
  refine ((O1 _).out).mono ?_; rintro e w1 ⟨rfl, hb1⟩
  go_wp2_with fail
  refine ((O2 _).out).mono ?_; rintro e w2 ⟨rfl, hb2⟩
  go_wp2_with fail
  refine ((O3 _).out).mono ?_; rintro e w3 ⟨rfl, hb3⟩
  have HB3 := Lib.hid (ext_under (ext_under hb1 (Nat.le_refl _) hb2) (Nat.le_refl _) hb3)
  clear hb1 hb2 hb3
  have HB4 : Hid (Below w.heap.size w (w3.alloc (.cells #[.int .i64 fa.node, .int .i64 fa.part, .int .i64 fa.depth, .int .i64 fa.x, .int .i64 fa.y, .int .i64 fa.w, .int .i64 fa.h, .string fa.text, .int .i64 fb.node, .int .i64 fb.part, .int .i64 fb.depth, .int .i64 fb.x, .int .i64 fb.y, .int .i64 fb.w, .int .i64 fb.h, .string fb.text, .int .i64 fc.node, .int .i64 fc.part, .int .i64 fc.depth, .int .i64 fc.x, .int .i64 fc.y, .int .i64 fc.w, .int .i64 fc.h, .string fc.text] 67))) := ext_under HB3.out (Nat.le_refl _) (EdF.below_a _ _)
  have HA4 : Hid (FrSl (w3.alloc (.cells #[.int .i64 fa.node, .int .i64 fa.part, .int .i64 fa.depth, .int .i64 fa.x, .int .i64 fa.y, .int .i64 fa.w, .int .i64 fa.h, .string fa.text, .int .i64 fb.node, .int .i64 fb.part, .int .i64 fb.depth, .int .i64 fb.x, .int .i64 fb.y, .int .i64 fb.w, .int .i64 fb.h, .string fb.text, .int .i64 fc.node, .int .i64 fc.part, .int .i64 fc.depth, .int .i64 fc.x, .int .i64 fc.y, .int .i64 fc.w, .int .i64 fc.h, .string fc.text] 67)) (w3.alloc (.cells #[.int .i64 fa.node, .int .i64 fa.part, .int .i64 fa.depth, .int .i64 fa.x, .int .i64 fa.y, .int .i64 fa.w, .int .i64 fa.h, .string fa.text, .int .i64 fb.node, .int .i64 fb.part, .int .i64 fb.depth, .int .i64 fb.x, .int .i64 fb.y, .int .i64 fb.w, .int .i64 fb.h, .string fb.text, .int .i64 fc.node, .int .i64 fc.part, .int .i64 fc.depth, .int .i64 fc.x, .int .i64 fc.y, .int .i64 fc.w, .int .i64 fc.h, .string fc.text] 67)).heap.size (some ⟨w3.heap.size, 0, none⟩) [fa, fb, fc]) := (HA w3).out
  have D1 : Hid (Calls Try.prog 52 #[.slice (some ⟨w3.heap.size, 0, none⟩) 3 3, .slice B nb cb] (w3.alloc (.cells #[.int .i64 fa.node, .int .i64 fa.part, .int .i64 fa.depth, .int .i64 fa.x, .int .i64 fa.y, .int .i64 fa.w, .int .i64 fa.h, .string fa.text, .int .i64 fb.node, .int .i64 fb.part, .int .i64 fb.depth, .int .i64 fb.x, .int .i64 fb.y, .int .i64 fb.w, .int .i64 fb.h, .string fb.text, .int .i64 fc.node, .int .i64 fc.part, .int .i64 fc.depth, .int .i64 fc.x, .int .i64 fc.y, .int .i64 fc.w, .int .i64 fc.h, .string fc.text] 67)) (RetDf (w3.alloc (.cells #[.int .i64 fa.node, .int .i64 fa.part, .int .i64 fa.depth, .int .i64 fa.x, .int .i64 fa.y, .int .i64 fa.w, .int .i64 fa.h, .string fa.text, .int .i64 fb.node, .int .i64 fb.part, .int .i64 fb.depth, .int .i64 fb.x, .int .i64 fb.y, .int .i64 fb.w, .int .i64 fb.h, .string fb.text, .int .i64 fc.node, .int .i64 fc.part, .int .i64 fc.depth, .int .i64 fc.x, .int .i64 fc.y, .int .i64 fc.w, .int .i64 fc.h, .string fc.text] 67)) (es, 0))) := by
    have h := diff_any chA b (some ⟨w3.heap.size, 0, none⟩) B 3 3 nb cb _ (by rw [hcA.out]; exact HA4.out) chA_wf rfl (slw HL.out.1 HB4.out) hwb hnb
    rw [hd.out] at h
    exact h
  clear DP HA HA4 O1 O2 O3
  go_wp2_with fail
  refine (D1.out).mono ?_; rintro e w5 ⟨Ag, ng, cg, rfl, ho, hf, hb5⟩
  have hng : ng = es.length := OwnA.len ho
  have HB5 := Lib.hid (ext_under HB4.out (Nat.le_refl _) hb5)
  have SE : Hid (Calls Try.prog 47 #[.slice Ag ng cg, .slice E ne ce] w5 fun e w' => e = .returned (.bool true) ∧ Below w5.heap.size w5 w') := by
    have h := EdB.rsame_any es es Ag E cg ce w5 (ho.sl Ed.cells_len) (slw HL.out.2 HB5.out) (by rw [← hne.out]; exact h63) (by rw [← hne.out]; exact h63)
    rw [eqE_self, ← hne.out] at h
    rw [hng, ← hne.out]
    exact h
  clear ho hf hb5 hng D1
  go_wp2_with fail
  refine (SE.out).mono ?_; rintro e w6 ⟨rfl, hb6⟩
  have HB6 := Lib.hid (ext_under HB5.out (Nat.le_refl _) hb6)
  clear hb6
  go_wp2
  go_ret
  exact ⟨rfl, HB6.out⟩
end Go.Proofs.Ytiljpbncfofnhaa.Dif
