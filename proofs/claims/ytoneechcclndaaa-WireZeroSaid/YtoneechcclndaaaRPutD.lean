/- wire: the document's Copy. -/
import Derived.Test.YtoneechcclndaaaRPutC
import Derived.Test.YtoneechcclndaaaMsgA
import Derived.Outline
import Derived.BigQuiet
import Derived.Deep.QuietTactic
import Derived.Deep.RegionWith
import Derived.Deep.RegionHeld3
import Derived.Deep.DrawnRows
import Derived.Deep.LoopGhost
import Derived.Deep.DeepCutAuto
import Derived.Laws.EntriesVeiled
namespace Go.Proofs.Ytoneechcclndaaa.Wire
open Go.RowKit Go.ChangeShapes Go.WideShapes Go.ChangeAt
set_option linter.unusedVariables false
set_option linter.unusedSimpArgs false
attribute [local go_sem ↓] Go.wp_at_zero Go.wp_at_succ
open Go.Shelf Go.Proofs.Ytoneechcclndaaa.Word Go.Proofs.Ytoneechcclndaaa.Msg

theorem zV5 (r : Wr) : (Try.prog.info? 38).map (·.size) = some (#[.int .u64 (r.v.n : Int), .int .i64 r.v.i, .bool r.v.f, .slice r.bA r.bn r.bc, .slice r.lA r.ln r.lc] : Array Value).size := by kernel_rfl
theorem zV5' (r : Wr) : (#[.int .u64 0, .int .i64 0, .bool false, .slice none 0 0, .slice none 0 0] : Array Value).size = (#[.int .u64 (r.v.n : Int), .int .i64 r.v.i, .bool r.v.f, .slice r.bA r.bn r.bc, .slice r.lA r.ln r.lc] : Array Value).size := by simp
theorem oneV5 (r : Wr) : (#[.int .u64 (r.v.n : Int), .int .i64 r.v.i, .bool r.v.f, .slice r.bA r.bn r.bc, .slice r.lA r.ln r.lc] : Array Value).all (·.oneCell') = true := by simp [Value.oneCell']

theorem Chg.undrew {S : Nat → Prop} {w w' : World} (h : Chg S w.drew w') : Chg S w w' := ⟨h.os, h.tape, h.output, h.size, h.block⟩
theorem lit_set (w : World) (p : Addr) (u : Value) (r : Wr) : Sl ((w.setCell p u).alloc (.cells #[.int .u64 (r.v.n : Int), .int .i64 r.v.i, .bool r.v.f, .slice r.bA r.bn r.bc, .slice r.lA r.ln r.lc] 38)) ((w.setCell p u).alloc (.cells #[.int .u64 (r.v.n : Int), .int .i64 r.v.i, .bool r.v.f, .slice r.bA r.bn r.bc, .slice r.lA r.ln r.lc] 38)).heap.size 5 Wr.cells (some ⟨w.heap.size, 0, none⟩) [r] := by
  have h := lit_one (enc := Wr.cells) (c := 5) (w.setCell p u) r 38 rfl
  have e : (w.setCell p u).heap.size = w.heap.size := by simp [World.setCell]
  rw [e] at h
  exact h
/-- what Copy leaves -/
def RetVals (w : World) (x : List WV) (e : Ending) (w' : World) : Prop :=
  Below w.heap.size w w' ∧ ∃ A n c rs, e = .returned (.slice A n c) ∧ rs.map Wr.v = x ∧ VOwn w.heap.size w' A n c rs
/-- how far Copy has come -/
structure CpI (w wr : World) (rs qs : List Wr) (j : Nat) (A : Option Addr) (n c : Nat) : Prop where
  vo : VOwn w.heap.size wr A n c qs
  vs : qs.map Wr.v = (rs.take j).map Wr.v
  be : Below w.heap.size w wr
  len : qs.length = j
/-- the box behind the call of Copy: b put in, the numbers struck -/
theorem cp_box {wr w1 : World} {a b c d e x : Value} (hb1 : Below (wr.alloc (.cells #[a, b, c, d, e] 38)).heap.size (wr.alloc (.cells #[a, b, c, d, e] 38)) w1) :
    Blk ((w1.setCell ⟨wr.heap.size, 3, none⟩ x).setCell ⟨wr.heap.size, 4, none⟩ (.slice none 0 0)) wr.heap.size 38 #[a, b, c, x, .slice none 0 0] ∧ Below wr.heap.size wr ((w1.setCell ⟨wr.heap.size, 3, none⟩ x).setCell ⟨wr.heap.size, 4, none⟩ (.slice none 0 0)) ∧
      Chg (fun k => k = wr.heap.size) w1 ((w1.setCell ⟨wr.heap.size, 3, none⟩ x).setCell ⟨wr.heap.size, 4, none⟩ (.slice none 0 0)) ∧ Below wr.heap.size wr w1 := by
  have h := (Blk.new wr 38 #[a, b, c, d, e]).ext hb1
  have hb := (below_1 wr _).trans (hb1.mono (by simp))
  refine ⟨(h.set_ 3 x).set_ 4 (.slice none 0 0), (hb.setCell (Nat.le_refl _) _).setCell (Nat.le_refl _) _, ((Chg.refl (fun k => k = wr.heap.size) _).setCell (p := ⟨wr.heap.size, 3, none⟩) (fun _ => rfl) _).setCell (p := ⟨wr.heap.size, 4, none⟩) (fun _ => rfl) _, hb⟩
theorem CpI.next {w wr w1 W2 w' w5 : World} {rs qs : List Wr} {r : Wr} {j : Nat} {A A' A1 A3 : Option Addr} {n c n' c' n1 c1 n3 c3 : Nat} {o : Obj} (h : CpI w wr rs qs j A n c) (hx : rs[j]? = some r) (hwf : r.v.Wf)
    (hown1 : Own w1 (wr.heap.size + 1) 5 1 encB (.slice A1 n1 c1) r.v.b) (hc12 : Chg (fun k => k = wr.heap.size) w1 W2) (hbe : Below wr.heap.size wr W2)
    (hown3 : OwnA w' 34 1 encN (.slice A3 n3 c3) r.v.l) (hc3 : Chg (fun k => (Value.slice none 0 0).ownBlock = some k) W2 w') (hat3 : (Value.slice A3 n3 c3).ownBlock = (Value.slice none 0 0).ownBlock ∨ (Value.slice A3 n3 c3).ownBlock = some W2.heap.size) (hlt : wr.heap.size < W2.heap.size)
    (hown : OwnA w5 38 5 Wr.cells (.slice A' n' c') (qs ++ [⟨r.v, A1, n1, c1, A3, n3, c3⟩]))
    (hc : Chg (fun k => (Value.slice A n c).ownBlock = some k) ((w'.setCell ⟨wr.heap.size, 4, none⟩ (.slice A3 n3 c3)).alloc o) w5) (hat : (Value.slice A' n' c').ownBlock = (Value.slice A n c).ownBlock ∨ (Value.slice A' n' c').ownBlock = some ((w'.setCell ⟨wr.heap.size, 4, none⟩ (.slice A3 n3 c3)).alloc o).heap.size) :
    CpI w w5 rs (qs ++ [⟨r.v, A1, n1, c1, A3, n3, c3⟩]) (j + 1) A' n' c' := by
  have hc23 : Below wr.heap.size W2 w' := hc3.below (Nat.le_of_lt hlt) (fun i _ hs => by cases hs)
  have hb4 : Below wr.heap.size wr (w'.setCell ⟨wr.heap.size, 4, none⟩ (.slice A3 n3 c3)) := (hbe.trans hc23).setCell (Nat.le_refl _) _
  have hc4 : Chg (fun k => k = wr.heap.size) w' (w'.setCell ⟨wr.heap.size, 4, none⟩ (.slice A3 n3 c3)) := (Chg.refl (fun k => k = wr.heap.size) _).setCell (p := ⟨wr.heap.size, 4, none⟩) (fun _ => rfl) _
  have hc14 : Chg (fun k => k = wr.heap.size) w1 (w'.setCell ⟨wr.heap.size, 4, none⟩ (.slice A3 n3 c3)) := (hc12.trans hc3 (fun i _ hs => by cases hs)).trans hc4 (fun i _ hs => hs)
  have hbl : ∀ (X : Option Addr) (a b : Nat) (k : Nat), blockOf X = some k → (Value.slice X a b).ownBlock = some k := fun X a b k hk => by cases X <;> simp_all [blockOf, Value.ownBlock]
  have hf1 : ∀ k, (Value.slice A1 n1 c1).ownBlock = some k → wr.heap.size < k := fun k hk => (hown1.lt hk).1
  have hf3 : ∀ k, (Value.slice A3 n3 c3).ownBlock = some k → wr.heap.size < k := fun k hk => by
    rcases hat3 with h | h
    · rw [h] at hk; cases hk
    · rw [h] at hk; injection hk with hk; omega
  have hok : (⟨r.v, A1, n1, c1, A3, n3, c3⟩ : Wr).Ok (w'.setCell ⟨wr.heap.size, 4, none⟩ (.slice A3 n3 c3)) :=
    ⟨(OwnA.of_own hown1).chg hc14 (fun k hk e => by have := hf1 k hk; omega), hown3.chg hc4 (fun k hk e => by have := hf3 k hk; omega), hwf⟩
  have hbw := h.be.size
  have hwo := (h.vo.ext hb4).appended hok ⟨fun k hk => by have := hf1 k (hbl _ _ _ _ hk); omega, fun k hk => by have := hf3 k (hbl _ _ _ _ hk); omega⟩ (Nat.le_trans hbw hb4.size) hown hc hat
  have hbo := (ext_under h.be (Nat.le_refl _) hb4).alloc (ext_under h.be (Nat.le_refl _) hb4).size o
  refine ⟨hwo, ?_, hbo.trans (hc.below hbo.size fun i hi hs => by have := h.vo.fr _ hs; omega), by simp [h.len]⟩
  rw [List.map_append, h.vs, List.take_add_one, hx, List.map_append]; simp

set_option maxHeartbeats 4000000 in
set_option maxRecDepth 100000 in
theorem rcopy4_any (rs : List Wr) (A : Option Addr) (n cap : Nat) (w : World) (hl : VRd w A n rs) : Calls Try.prog 17 #[.slice A n cap] w (RetVals w (rs.map Wr.v)) := by
  obtain ⟨i0, hi, hz, hz1, hz2⟩ := info_parts vInfo
  obtain ⟨i1, hi1, hy, hy1, hy2⟩ := info_parts nInfo
  have HL := Lib.hid hl
  have hnb : n ≤ 1000000 := by rw [hl.n.out]; exact hl.le
  clear hl
  go_enter Try.func17, Try.ntmps17
  go_wp2
  go_loopg [3, 4] n (fun g vo vj wr => ∃ (j : Nat) (A2 : Option Addr) (n2 c2 : Nat) (qs : List Wr), vj = .int .i64 (j : Int) ∧ vo = .slice A2 n2 c2 ∧ n ≤ j + g ∧ j ≤ n ∧ Hid (CpI w wr rs qs j A2 n2 c2))
  case atStart => exact ⟨0, none, 0, 0, [], rfl, rfl, by omega, by omega, ⟨VOwn.nil _ _, rfl, Below.refl _ _, rfl⟩⟩
  case round =>
    obtain ⟨j, A2, n2, c2, qs, rfl, rfl, hg, hj, hC⟩ := hrel
    by_cases hlt : j < n
    · have hj1 : j < rs.length := by rw [← HL.out.n.out]; exact hlt
      have HR := Lib.hid (HL.out.ext hC.out.be)
      have hx := List.getElem?_eq_getElem hj1
      obtain ⟨vb, vo, rfl, hvb, y0, y1, y2, y3, y4⟩ := Wr.at_ HR.out.sl hx
      have hrd := Lib.hid (HR.out.rd _ (List.getElem_mem hj1))
      have HX := Lib.hid hx
      generalize rs[j] = r at *
      have b0 : (0 : Int) ≤ (j : Int) := Int.natCast_nonneg _
      have b2 : (j : Int) < (n : Int) := by omega
      have b3 : decide (j < n) = true := decide_eq_true hlt
      have hne : vb ≠ wr.heap.size := by omega
      have hlen := hC.out.len
      have h1 : Hid (qs.length + [wr0].length ≤ maxLen) := by rw [Hid, hlen]; simp [maxLen]; omega
      have h2 : Hid ((qs.length + [wr0].length) * 72 ≤ 140737488355328) := by rw [Hid, hlen]; simp; omega
      have h3 : Hid (([] : List Nat).length + r.v.l.length ≤ maxLen) := by have := hrd.out.wf.2.2.2.2.2; rw [Hid]; simp [maxLen]; omega
      have h4 : Hid ((([] : List Nat).length + r.v.l.length) * 8 ≤ 140737488355328) := by have := hrd.out.wf.2.2.2.2.2; rw [Hid]; simp; omega
      have hcp := Lib.hid (fun W (hW : Below wr.heap.size wr W) => Bytes.copy_any r.v.b r.bA r.bn r.bc W (hrd.out.b.ext hW) (by have := hrd.out.wf.2.2.2.2.1; omega) hrd.out.bn)
      clear hx hlen
      go_wp2_with (first | (with_reducible refine wpList_store_new _ rfl 38 (.tmp 5) (.tmp 15) rfl _ _ rfl rfl (zV5 r) (zV5' r) (oneV5 r) ?_) | (go_at_call 27; refine (hcp.out _ (below_1 wr _)).mono ?_; rintro e w1 ⟨v1, rfl, hown1, hb1⟩; obtain ⟨A1, n1, c1, rfl, hn1, hle1, hmx1⟩ := hown1.form; have HB := Lib.hid (cp_box (x := .slice A1 n1 c1) hb1); have HO1 := Lib.hid hown1; have hblk := (Blk.new wr 38 #[.int .u64 (r.v.n : Int), .int .i64 r.v.i, .bool r.v.f, .slice r.bA r.bn r.bc, .slice r.lA r.ln r.lc]).ext hb1; have f3 := hblk.free 3; have f4 := hblk.free 4; have k3 := hblk.cell 3; have k4 := hblk.cell 4; simp only [List.getElem?_toArray, List.getElem?_cons_zero, List.getElem?_cons_succ] at k3 k4; clear hown1 hb1 hblk))
      have z4 : ((w1.setCell ⟨wr.heap.size, 3, none⟩ (.slice A1 n1 c1)).setCell ⟨wr.heap.size, 4, none⟩ (.slice none 0 0)).cell? ⟨vb, vo + j * 5 + 4, none⟩ = some (.slice r.lA r.ln r.lc) := (HB.out.2.1.cell hvb).trans y4
      clear k3 k4 f3 f4 y0 y1 y2 y3 y4
      have HO1 : Hid (Own w1 (wr.heap.size + 1) 5 1 encB (.slice A1 n1 c1) r.v.b) := by have := HO1.out; rwa [World.size_alloc] at this
      generalize (w1.setCell ⟨wr.heap.size, 3, none⟩ (.slice A1 n1 c1)).setCell ⟨wr.heap.size, 4, none⟩ (.slice none 0 0) = W2 at *
      have HSL := Lib.hid (hrd.out.l.ext (show Below wr.heap.size wr W2 from HB.out.2.1))
      have k4 := HB.out.1.cell 4
      simp only [List.getElem?_toArray, List.getElem?_cons_zero, List.getElem?_cons_succ] at k4
      go_region_law (refine step_append_a _ rfl _ _ _ rfl 34 i1 _ 1 8 Try.underlying36 hi1 hy hy1 hy2 rfl (by decide) encN_len encN_one (.slice none 0 0) [] (by rfl) (OwnA.nil_ _ _ _ _) _ r.lA r.v.l r.ln r.lc (by rfl) hrd.out.ln HSL.out h3.out h4.out ?_; intro v' w' hown' hchg hat; obtain ⟨A3, n3, c3, rfl, hn3, hle3, hmx3, hnil3⟩ := hown'.form; have HA := Lib.hid (And.intro hown' (And.intro (Chg.undrew hchg) hat)); clear hown' hchg hat; have hblk := HB.out.1.chg HA.out.2.1 (fun h => by cases h); have f4 := hblk.free 4; have m0 := hblk.cell 0; have m1 := hblk.cell 1; have m2 := hblk.cell 2; have m3 := hblk.cell 3; have m4 := hblk.cell 4; simp only [List.getElem?_toArray, List.getElem?_cons_zero, List.getElem?_cons_succ] at m0 m1 m2 m3 m4; clear hblk)
      all_goals (
        go_wp2_with (at_builtin; refine wpList_append_a _ rfl _ _ _ rfl 38 i0 _ 5 72 Try.underlying22 hi hz hz1 hz2 rfl (by decide) Wr.cells_len Wr.cells_one _ qs (by rfl) ((hC.out.vo.own.ext (((HB.out.2.1.trans (HA.out.2.1.below (Nat.le_of_lt HB.out.1.lt) (fun i _ hs => by cases hs)))).setCell (p := ⟨wr.heap.size, 4, none⟩) (Nat.le_refl _) (.slice A3 n3 c3))).alloc _) _ (some ⟨w'.heap.size, 0, none⟩) [⟨r.v, A1, n1, c1, A3, n3, c3⟩] 1 1 (by rfl) rfl (lit_set w' _ _ (⟨r.v, A1, n1, c1, A3, n3, c3⟩ : Wr)) h1.out h2.out ?_; intro v5 w5 hown5 hchg5 hat5; obtain ⟨A5, n5, c5, rfl, hn5, hle5, hmx5, hnil5⟩ := hown5.form; have HN := Lib.hid (hC.out.next HX.out hrd.out.wf HO1.out HB.out.2.2.1 HB.out.2.1 HA.out.1 HA.out.2.1 HA.out.2.2 HB.out.1.lt hown5 hchg5 hat5); clear hown5 hchg5 hat5)
        go_roundg (gk - 1)
        case measure => omega
        case rel => exact ⟨j + 1, A5, n5, c5, _, by go_num, rfl, by omega, by omega, HN.out⟩)
    · have hall : Hid (rs.take j = rs) := List.take_of_length_le (by rw [← HL.out.n.out]; omega)
      have b2 : ¬ (j : Int) < (n : Int) := by omega
      have b3 : decide (j < n) = false := decide_eq_false hlt
      go_wp2
      go_ret
      have h := hC.out
      have hv := h.vs
      rw [hall.out] at hv
      exact ⟨h.be, A2, n2, c2, qs, rfl, hv, h.vo⟩
end Go.Proofs.Ytoneechcclndaaa.Wire
