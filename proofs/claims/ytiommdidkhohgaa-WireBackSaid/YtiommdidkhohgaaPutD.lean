/- words.Row; what the letters put. -/
import Derived.Test.YtiommdidkhohgaaPutC
import Derived.Outline
import Derived.BigQuiet
import Derived.Deep.QuietTactic
import Derived.Deep.RegionWith
import Derived.Deep.RegionHeld3
import Derived.Deep.DrawnRows
import Derived.Deep.LoopGhost
import Derived.Deep.DeepCutAuto
import Derived.Laws.EntriesVeiled
namespace Go.Proofs.Ytiommdidkhohgaa.Wire
open Go.RowKit Go.ChangeShapes Go.WideShapes Go.ChangeAt
set_option linter.unusedVariables false
set_option linter.unusedSimpArgs false
attribute [local go_sem ↓] Go.wp_at_zero Go.wp_at_succ
open Go.Shelf Go.Proofs.Ytiommdidkhohgaa.Word

theorem ptInfo : (Try.prog.info? 22).map (fun i => (i.zero, i.size, i.bytes)) = some (some (.slice none 0 0), 1, 24) := by kernel_rfl
/-- a literal -/
theorem lit_list {α : Type} {enc : α → List Value} {c : Nat} (w : World) (l : List α) (t : TypeId) (he : ∀ x, (enc x).length = c) : Sl (w.alloc (.cells (l.flatMap enc).toArray t)) (w.alloc (.cells (l.flatMap enc).toArray t)).heap.size c enc (some ⟨w.heap.size, 0, none⟩) l := by
  intro _
  refine ⟨w.heap.size, 0, rfl, by simp, fun k y hy j v hv => ?_⟩
  rw [(Blk.new w t _).cell]
  have hj : j < c := by rw [← he y]; exact (List.getElem?_eq_some_iff.1 hv).1
  have := flat_at he l k j y hy hj
  simp only [Nat.zero_add, List.getElem?_toArray]
  rw [this]; exact hv

def Pt.Ok (w : World) (p : Pt) : Prop := OwnA w 5 1 encB (.slice p.A p.n p.cap) p.bs
theorem Pt.Ok.rd {w : World} {p : Pt} (h : p.Ok w) : p.Rd w := ⟨OwnA.sl encB_len h, OwnA.len h⟩
theorem Pt.Ok.ext {w w' : World} {p : Pt} (h : p.Ok w) (hb : Below w.heap.size w w') : p.Ok w' := OwnA.ext h hb
theorem Pt.Ok.chgRow {w w5 : World} {A : Option Addr} {n c : Nat} {ps : List Pt} {p : Pt} (h : p.Ok w) (hrow : OwnA w 22 1 Pt.cells (.slice A n c) ps) (hc : Chg (fun k => (Value.slice A n c).ownBlock = some k) w w5) : p.Ok w5 :=
  OwnA.chg h hc (fun g hg hs => OwnA.apartA hrow h (by decide) hs hg)

/-- how far Row has come -/
structure RI (w wr : World) (l : List Nat) (j : Nat) (A : Option Addr) (n c : Nat) (ps : List Pt) : Prop where
  own : OwnA wr 22 1 Pt.cells (.slice A n c) ps
  ok : ∀ p ∈ ps, p.Ok wr
  bs : ps.map Pt.bs = (l.take j).map putW
  fr : ∀ k, (Value.slice A n c).ownBlock = some k → w.heap.size ≤ k
  be : Below w.heap.size w wr
theorem RI.next {w wr w1 w2 : World} {l : List Nat} {j : Nat} {A A' : Option Addr} {n c n' c' x : Nat} {ps : List Pt} {p : Pt} {o : Obj} (h : RI w wr l j A n c ps) (hx : l[j]? = some x) (hp : p.Ok w1) (hpb : p.bs = putW x) (hb : Below wr.heap.size wr w1)
    (hown : OwnA w2 22 1 Pt.cells (.slice A' n' c') (ps ++ [p]))
    (hc : Chg (fun k => (Value.slice A n c).ownBlock = some k) (w1.alloc o) w2) (hat : (Value.slice A' n' c').ownBlock = (Value.slice A n c).ownBlock ∨ (Value.slice A' n' c').ownBlock = some (w1.alloc o).heap.size) : RI w w2 l (j + 1) A' n' c' (ps ++ [p]) := by
  have hba : Below w1.heap.size w1 (w1.alloc o) := (Below.refl _ _).alloc (Nat.le_refl _) _
  have hbb : Below wr.heap.size wr (w1.alloc o) := hb.trans (hba.mono hb.size)
  have hrow := h.own.ext hbb
  have hbw : Below w.heap.size w (w1.alloc o) := ext_under h.be (Nat.le_refl _) hbb
  refine ⟨hown, fun q hq => ?_, ?_, fun k hk => ?_, hbw.trans (hc.below hbw.size fun i hi hs => by have := h.fr _ hs; omega)⟩
  · rcases List.mem_append.1 hq with hq | hq
    · exact ((h.ok q hq).ext hbb).chgRow hrow hc
    · rw [List.mem_singleton] at hq; subst hq; exact (hp.ext hba).chgRow hrow hc
  · rw [List.map_append, h.bs, List.take_add_one, hx, List.map_append]; simp [hpb]
  · rcases hat with hat | hat
    · exact h.fr k (hat ▸ hk)
    · rw [hat] at hk; injection hk with hk; have := hbw.size; omega
theorem allB_row {ps : List Pt} {l : List Nat} (h : ps.map Pt.bs = l.map putW) : allB ps = rowW l := by
  unfold allB rowW
  rw [List.flatMap_def, List.flatMap_def, h]
theorem rowW_le (l : List Nat) (hl : ∀ x ∈ l, x < p64) : (rowW l).length ≤ 10 * l.length := by
  induction l with
  | nil => simp [rowW]
  | cons x l ih =>
    unfold rowW at *
    rw [List.flatMap_cons, List.length_append, List.length_cons]
    have h1 := putW_len (p64_lt (hl x (by simp)))
    have h2 := ih (fun y hy => hl y (by simp [hy]))
    omega

theorem joined_any (ps : List Pt) (A : Option Addr) (n cap : Nat) (w : World) (hl : Sl w w.heap.size 1 Pt.cells A ps) (hr : ∀ p ∈ ps, p.Rd w) (hn : Hid (n = ps.length)) (hm : n ≤ 1000000) (ht : (allB ps).length ≤ 1000000000000) :
    Calls Try.prog 86 #[.slice A n cap] w (RetA w 5 1 encB (allB ps)) := by
  have h := Lib.hid (concat_any ps A n cap w hl hr hn hm ht)
  clear hl hr ht
  go_enter Try.func86, Try.ntmps86
  go_wp2_with (go_at_call 76; refine h.out.mono ?_; rintro e w3 ⟨v, rfl, h1, h2, h3⟩)
  go_ret
  exact ⟨v, rfl, h1, h2, h3⟩

set_option maxHeartbeats 4000000 in
set_option maxRecDepth 100000 in
theorem row_any (l : List Nat) (A : Option Addr) (n cap : Nat) (w : World) (hl : Sl w w.heap.size 1 encN A l) (hn : Hid (n = l.length)) (hm : n ≤ 1000000) (hw : ∀ x ∈ l, x < p64) :
    Calls Try.prog 79 #[.slice A n cap] w (RetA w 5 1 encB (rowW l)) := by
  obtain ⟨i0, hi, hz, hz1, hz2⟩ := info_parts ptInfo
  have HL := Lib.hid (And.intro hl hw)
  clear hl hw
  go_enter Try.func79, Try.ntmps79
  go_wp2
  go_loopg [3, 8] n (fun g vo vj wr => ∃ (j : Nat) (A2 : Option Addr) (n2 c2 : Nat) (ps : List Pt), vj = .int .i64 (j : Int) ∧ vo = .slice A2 n2 c2 ∧ n ≤ j + g ∧ j ≤ n ∧ Hid (RI w wr l j A2 n2 c2 ps))
  case atStart => exact ⟨0, none, 0, 0, [], rfl, rfl, by omega, by omega, ⟨OwnA.nil_ _ _ _ _, (fun p hp => by cases hp), rfl, (fun k hk => by cases hk), Below.refl _ _⟩⟩
  case round =>
    obtain ⟨j, A2, n2, c2, ps, rfl, rfl, hg, hj, hRI⟩ := hrel
    by_cases hlt : j < n
    · have hj1 : j < l.length := by rw [← hn.out]; exact hlt
      have hx := List.getElem?_eq_getElem hj1
      obtain ⟨bb, off, rfl, hbb, c0⟩ := encN_at (HL.out.1.ext hRI.out.be) hx
      have hxw := HL.out.2 _ (List.getElem_mem hj1)
      have HX := Lib.hid hx
      have hpl : ps.length = j := by
        have := congrArg List.length hRI.out.bs
        simp only [List.length_map, List.length_take] at this
        omega
      have h1 : Hid (ps.length + [(⟨none, 0, 0, []⟩ : Pt)].length ≤ maxLen) := by rw [Hid, hpl]; simp [maxLen]; omega
      have h2 : Hid ((ps.length + [(⟨none, 0, 0, []⟩ : Pt)].length) * 24 ≤ 140737488355328) := by rw [Hid, hpl]; simp; omega
      generalize l[j] = x at *
      have b0 : (0 : Int) ≤ (j : Int) := Int.natCast_nonneg _
      have b2 : (j : Int) < (n : Int) := by omega
      have b3 : decide (j < n) = true := decide_eq_true hlt
      clear hx hpl
      go_wp2_with (first | (go_at_call 68; refine (put_any x hxw _).mono ?_; rintro e w1 ⟨v1, rfl, hown1, hb1⟩; obtain ⟨A1, n1, c1, rfl, hn1, hle1, hmx1⟩ := hown1.form; have HP : Hid ((⟨A1, n1, c1, putW x⟩ : Pt).Ok w1 ∧ Below wr.heap.size wr w1) := ⟨OwnA.of_own hown1, hb1⟩; clear hown1 hb1) | (at_builtin; refine wpList_append_a _ rfl _ _ _ rfl 22 i0 _ 1 24 Try.underlying113 hi hz hz1 hz2 rfl (by decide) Pt.cells_len Pt.cells_one _ ps (by rfl) ((hRI.out.own.ext HP.out.2).alloc _) _ (some ⟨w1.heap.size, 0, none⟩) [⟨A1, n1, c1, putW x⟩] 1 1 (by rfl) rfl (lit_one w1 (⟨A1, n1, c1, putW x⟩ : Pt) 22 rfl) h1.out h2.out ?_; intro v' w' hown' hchg hat; obtain ⟨A3, n3, c3, rfl, hn3, hle3, hmx3, hnil3⟩ := hown'.form; have HA := Lib.hid (And.intro hown' (And.intro hchg hat)); clear hown' hchg hat))
      go_roundg (gk - 1)
      case measure => omega
      case rel => exact ⟨j + 1, A3, n3, c3, ps ++ [⟨A1, n1, c1, putW x⟩], by go_num, rfl, by omega, by omega, hRI.out.next HX.out HP.out.1 rfl HP.out.2 HA.out.1 HA.out.2.1 HA.out.2.2⟩
    · have b2 : ¬ (j : Int) < (n : Int) := by omega
      have b3 : decide (j < n) = false := decide_eq_false hlt
      have hps : Hid (allB ps = rowW l ∧ n2 = ps.length ∧ ps.length = n) := by
        have h3 := hRI.out.bs
        rw [List.take_of_length_le (by rw [← hn.out]; omega)] at h3
        refine ⟨allB_row h3, hRI.out.own.len, ?_⟩
        have := congrArg List.length h3
        simp only [List.length_map] at this
        rw [this, ← hn.out]
      have hjn := Lib.hid (joined_any ps A2 n2 c2 wr (hRI.out.own.sl Pt.cells_len) (fun p hp => (hRI.out.ok p hp).rd) hps.out.2.1 (by rw [hps.out.2.1, hps.out.2.2]; exact hm) (by rw [hps.out.1]; have := rowW_le l HL.out.2; have := hn.out; omega))
      go_wp2_with (go_at_call 86; refine hjn.out.mono ?_; rintro e w3 ⟨v, rfl, k1, k2, k3⟩)
      go_ret
      rw [hps.out.1] at k1
      exact ⟨v, rfl, k1, fun k hk => Nat.le_trans hRI.out.be.size (k2 k hk), ext_under hRI.out.be (Nat.le_refl _) k3⟩
end Go.Proofs.Ytiommdidkhohgaa.Wire
