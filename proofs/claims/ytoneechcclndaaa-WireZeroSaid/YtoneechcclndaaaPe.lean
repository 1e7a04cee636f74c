/- what the letters put; slices.Clip.
wire: the program's Put.
wire, plainly: what was put is taken as it was; what is taken of any bytes is put as those; torn forms.
wire, plainly: schemas one behind the other. -/
import Derived.Test.YtoneechcclndaaaPa
import Derived.Outline
import Derived.BigQuiet
import Derived.Deep.QuietTactic
import Derived.Deep.RegionWith
import Derived.Deep.RegionHeld3
import Derived.Deep.DrawnRows
import Derived.Deep.LoopGhost
import Derived.Deep.DeepCutAuto
import Derived.Laws.EntriesVeiled
import Derived.BigRegion
import Derived.WalkLawsBesides
import Derived.Deep.RegionLaw
namespace Go.Proofs.Ytoneechcclndaaa.Wire
open Go.RowKit Go.ChangeShapes Go.WideShapes Go.ChangeAt
set_option linter.unusedVariables false
set_option linter.unusedSimpArgs false
attribute [local go_sem ↓] Go.wp_at_zero Go.wp_at_succ
open Go.Shelf Go.Proofs.Ytoneechcclndaaa.Word

theorem RetA.of_own {w w0 w1 : World} {v : Value} {l : List UInt8} (hb0 : Below w.heap.size w w0) (h : Own w1 w0.heap.size 5 1 encB v l) (hb : Below w0.heap.size w0 w1) : RetA w 5 1 encB l (.returned v) w1 :=
  ⟨v, rfl, OwnA.of_own h, fun k hk => Nat.le_trans hb0.size (h.lt hk).1, ext_under hb0 (Nat.le_refl _) hb⟩
theorem RetA.up {w w0 w1 : World} {v : Value} {l : List UInt8} (hb0 : Below w.heap.size w w0) (h : RetA w0 5 1 encB l (.returned v) w1) : RetA w 5 1 encB l (.returned v) w1 := by
  obtain ⟨v', he, h1, h2, h3⟩ := h
  injection he with he
  subst he
  exact ⟨v, rfl, h1, fun k hk => Nat.le_trans hb0.size (h2 k hk), ext_under hb0 (Nat.le_refl _) h3⟩
theorem below_1 (w : World) (o : Obj) : Below w.heap.size w (w.alloc o) := (Below.refl _ _).alloc (Nat.le_refl _) _

theorem pnat_any (r : Wr) (w : World) (hr : r.Rd w) : Calls Try.prog 95 #[r.agg] w (RetA w 5 1 encB (putK .nat r.v)) := by
  have hp := Lib.hid (fun W => put_any r.v.n hr.wf.1 W)
  clear hr
  unfold Wr.agg
  go_enter Try.func95, Try.ntmps95
  go_wp2_with (go_at_call 96; refine (hp.out _).mono ?_; rintro e w1 ⟨v, rfl, hown, hb⟩)
  go_ret
  exact RetA.of_own (below_1 w _) hown hb

theorem pint_any (r : Wr) (w : World) (hr : r.Rd w) : Calls Try.prog 98 #[r.agg] w (RetA w 5 1 encB (putK .int r.v)) := by
  have hp := Lib.hid (fun W => put_any (foldZ r.v.i) (fold_lt hr.wf.2.1 hr.wf.2.2.1) W)
  have hf := Lib.hid (fun W => fold_any r.v.i hr.wf.2.1 hr.wf.2.2.1 W)
  clear hr
  unfold Wr.agg
  unfold putK
  simp only
  generalize foldZ r.v.i = z at *
  go_enter Try.func98, Try.ntmps98
  go_wp2_with (first | (go_at_call 99; refine (hf.out _).mono ?_; rintro e w1 ⟨rfl, rfl⟩) | (go_at_call 96; refine (hp.out _).mono ?_; rintro e w1 ⟨v, rfl, hown, hb⟩))
  go_ret
  exact RetA.of_own (below_1 w _) hown hb

theorem pflag_any (r : Wr) (w : World) : Calls Try.prog 101 #[r.agg] w (RetA w 5 1 encB (putK .flag r.v)) := by
  obtain ⟨⟨n, i, f, b, l⟩, A, bn, bc, L, ln, lc⟩ := r
  unfold Wr.agg putK
  simp only
  cases f with
  | true =>
    go_enter Try.func101, Try.ntmps101
    go_wp2
    go_ret
    have h := lit_own (w.alloc (.cells #[.int .u64 (n : Int), .int .i64 i, .bool true, .slice A bn bc, .slice L ln lc] 38)) 1
    rw [World.size_alloc] at h
    exact RetA.of_own (w0 := w.alloc (.cells #[.int .u64 (n : Int), .int .i64 i, .bool true, .slice A bn bc, .slice L ln lc] 38)) (below_1 w _) (by rw [World.size_alloc]; exact h) (below_1 _ _)
  | false =>
    go_enter Try.func101, Try.ntmps101
    go_wp2
    go_ret
    have h := lit_own (w.alloc (.cells #[.int .u64 (n : Int), .int .i64 i, .bool false, .slice A bn bc, .slice L ln lc] 38)) 0
    rw [World.size_alloc] at h
    exact RetA.of_own (w0 := w.alloc (.cells #[.int .u64 (n : Int), .int .i64 i, .bool false, .slice A bn bc, .slice L ln lc] 38)) (below_1 w _) (by rw [World.size_alloc]; exact h) (below_1 _ _)

/-- two rows of bytes put together -/
theorem concat_two (p q : Pt) (w1 : World) (hp : p.Rd w1) (hq : q.Rd w1) (hlen : p.bs.length + q.bs.length ≤ 1000000000000) :
    Calls Try.prog 104 #[.slice (some ⟨w1.heap.size, 0, none⟩) 2 2] (w1.alloc (.cells #[.slice p.A p.n p.cap, .slice q.A q.n q.cap] 25)) (RetA (w1.alloc (.cells #[.slice p.A p.n p.cap, .slice q.A q.n q.cap] 25)) 5 1 encB (p.bs ++ q.bs)) := by
  have h := concat_any [p, q] (some ⟨w1.heap.size, 0, none⟩) 2 2 (w1.alloc (.cells #[.slice p.A p.n p.cap, .slice q.A q.n q.cap] 25)) (lit_list w1 [p, q] 25 Pt.cells_len)
    (fun x hx => by
      rcases List.mem_cons.1 hx with rfl | hx
      · exact hp.ext (below_1 _ _)
      · rw [List.mem_singleton] at hx; subst hx; exact hq.ext (below_1 _ _)) rfl (by decide) (by simpa [allB] using hlen)
  have e : allB [p, q] = p.bs ++ q.bs := by simp [allB]
  rwa [e] at h

set_option maxHeartbeats 4000000 in
theorem pbytes_any (r : Wr) (w : World) (hr : r.Rd w) : Calls Try.prog 103 #[r.agg] w (RetA w 5 1 encB (putK .bytes r.v)) := by
  have hbn := hr.bn
  have hb6 := hr.wf.2.2.2.2.1
  have hq : ∀ W, Below w.heap.size w W → (⟨r.bA, r.bn, r.bc, r.v.b⟩ : Pt).Rd W := fun W hW => ⟨hr.b.ext hW, hr.bn⟩
  have HQ := Lib.hid hq
  have hp := Lib.hid (fun W => put_any r.bn (by rw [hbn]; unfold p64; omega) W)
  have hK : Hid (putK .bytes r.v = putW r.bn ++ r.v.b) := by unfold Hid putK; rw [hbn]
  have hcc : ∀ (w1 : World) (A1 : Option Addr) (n1 c1 : Nat), Hid ((⟨A1, n1, c1, putW r.bn⟩ : Pt).Ok w1 ∧ Below w.heap.size w w1) →
      Calls Try.prog 104 #[.slice (some ⟨w1.heap.size, 0, none⟩) 2 2] (w1.alloc (.cells #[.slice A1 n1 c1, .slice r.bA r.bn r.bc] 25)) (RetA (w1.alloc (.cells #[.slice A1 n1 c1, .slice r.bA r.bn r.bc] 25)) 5 1 encB (putW r.bn ++ r.v.b)) := fun w1 A1 n1 c1 h =>
    concat_two ⟨A1, n1, c1, putW r.bn⟩ ⟨r.bA, r.bn, r.bc, r.v.b⟩ w1 h.out.1.rd (HQ.out w1 h.out.2) (by
      have := putW_len (p64_lt (n := r.bn) (by rw [hbn]; unfold p64; omega))
      simp only; omega)
  have hb7 : r.bn ≤ 1000000 := by omega
  have e1 : IntKind.u64.wrap (r.bn : Int) = (r.bn : Int) := IntWalk.u64_in _ (by omega)
  have hB0 : ∀ o, Hid (Below w.heap.size w (w.alloc o).drew) := fun o => hb_ad w o
  clear hr hq hbn
  rw [hK.out]
  unfold Wr.agg
  obtain ⟨⟨n, i, f, b, l⟩, A, bn, bc, L, ln, lc⟩ := r
  simp only at *
  go_enter Try.func103, Try.ntmps103
  go_wp2
  go_region_with (first | (go_at_call 96; refine (hp.out _).mono ?_; rintro e w1 ⟨v, rfl, hown, hb⟩; obtain ⟨A1, n1, c1, rfl, hn1, hle1, hmx1⟩ := hown.form; have hB9 : Blk w1 w.heap.size 38 #[.int .u64 (n : Int), .int .i64 i, .bool f, .slice A bn bc, .slice L ln lc] := (by with_reducible exact blk_1 hb); have k3 : w1.cell? ⟨w.heap.size, 3, none⟩ = some (.slice A bn bc) := hB9.cell 3; have HP : Hid ((⟨A1, n1, c1, putW bn⟩ : Pt).Ok w1 ∧ Below w.heap.size w w1) := ⟨OwnA.of_own hown, b4_ad hb⟩; clear hown hb hB9) | (go_at_call 104; refine (hcc _ _ _ _ HP).mono ?_; rintro e w3 ⟨v3, rfl, hr3⟩))
  all_goals (
    go_wp2
    go_ret
    exact RetA.up (HP.out.2.trans ((below_1 w1 _).mono HP.out.2.size)) ⟨v3, rfl, hr3⟩)

set_option maxHeartbeats 4000000 in
theorem prow_any (r : Wr) (w : World) (hr : r.Rd w) : Calls Try.prog 106 #[r.agg] w (RetA w 5 1 encB (putK .row r.v)) := by
  have hbn := hr.ln
  have hb6 := hr.wf.2.2.2.2.2
  have hw6 := hr.wf.2.2.2.1
  have hrow : ∀ W, Hid (Below w.heap.size w W) → Calls Try.prog 107 #[.slice r.lA r.ln r.lc] W (RetA W 5 1 encB (rowW r.v.l)) := fun W hW => row_any r.v.l r.lA r.ln r.lc W (hr.l.ext hW.out) hbn (by omega) hw6
  have hp := Lib.hid (fun W => put_any r.ln (by rw [hbn]; unfold p64; omega) W)
  have hK : Hid (putK .row r.v = putW r.ln ++ rowW r.v.l) := by unfold Hid putK; rw [hbn]
  have hrl := rowW_le r.v.l hw6
  have hcc : ∀ (w1 : World) (A1 A2 : Option Addr) (n1 c1 n2 c2 : Nat), Hid ((⟨A1, n1, c1, putW r.ln⟩ : Pt).Ok w1 ∧ (⟨A2, n2, c2, rowW r.v.l⟩ : Pt).Ok w1) →
      Calls Try.prog 104 #[.slice (some ⟨w1.heap.size, 0, none⟩) 2 2] (w1.alloc (.cells #[.slice A1 n1 c1, .slice A2 n2 c2] 25)) (RetA (w1.alloc (.cells #[.slice A1 n1 c1, .slice A2 n2 c2] 25)) 5 1 encB (putW r.ln ++ rowW r.v.l)) := fun w1 A1 A2 n1 c1 n2 c2 h =>
    concat_two ⟨A1, n1, c1, putW r.ln⟩ ⟨A2, n2, c2, rowW r.v.l⟩ w1 h.out.1.rd h.out.2.rd (by
      have := putW_len (p64_lt (n := r.ln) (by rw [hbn]; unfold p64; omega))
      simp only; omega)
  have hb7 : r.ln ≤ 1000000 := by omega
  have e1 : IntKind.u64.wrap (r.ln : Int) = (r.ln : Int) := IntWalk.u64_in _ (by omega)
  clear hr hbn hw6 hrl
  rw [hK.out]
  unfold Wr.agg
  obtain ⟨⟨n, i, f, b, l⟩, A, bn, bc, L, ln, lc⟩ := r
  simp only at *
  go_enter Try.func106, Try.ntmps106
  go_wp2
  go_region_with (first | (go_at_call 96; refine (hp.out _).mono ?_; rintro e w1 ⟨v, rfl, hown, hb⟩; obtain ⟨A1, n1, c1, rfl, hn1, hle1, hmx1⟩ := hown.form; have hB9 : Blk w1 w.heap.size 38 #[.int .u64 (n : Int), .int .i64 i, .bool f, .slice A bn bc, .slice L ln lc] := (by with_reducible exact blk_1 hb); have k4 : w1.cell? ⟨w.heap.size, 4, none⟩ = some (.slice L ln lc) := hB9.cell 4; have HP : Hid ((⟨A1, n1, c1, putW ln⟩ : Pt).Ok w1 ∧ Below w.heap.size w w1) := ⟨OwnA.of_own hown, b4_ad hb⟩; clear hown hb hB9) | (go_at_call 107; refine (hrow _ (Lib.hid HP.out.2)).mono ?_; rintro e w2 ⟨v2, rfl, hown2, hfr2, hb2⟩; obtain ⟨A2, n2, c2, rfl, hn2, hle2, hmx2, hnil2⟩ := hown2.form; have HQ : Hid (((⟨A1, n1, c1, putW ln⟩ : Pt).Ok w2 ∧ (⟨A2, n2, c2, rowW l⟩ : Pt).Ok w2) ∧ Below w.heap.size w w2) := ⟨⟨HP.out.1.ext hb2, hown2⟩, ext_under HP.out.2 (Nat.le_refl _) hb2⟩; clear hown2 hfr2 hb2) | (go_at_call 104; refine (hcc _ _ _ _ _ _ _ (Lib.hid HQ.out.1)).mono ?_; rintro e w3 ⟨v3, rfl, hr3⟩))
  all_goals (
    go_wp2
    go_ret
    exact RetA.up (HQ.out.2.trans ((below_1 w2 _).mono HQ.out.2.size)) ⟨v3, rfl, hr3⟩)

theorem pk_any (k : Kd) (r : Wr) (w : World) (hr : r.Rd w) : Calls Try.prog k.put #[r.agg] w (RetA w 5 1 encB (putK k r.v)) := by
  cases k with
  | nat => exact pnat_any r w hr
  | int => exact pint_any r w hr
  | flag => exact pflag_any r w
  | bytes => exact pbytes_any r w hr
  | row => exact prow_any r w hr
theorem pk_enters (k : Kd) : ∀ args w, (callFunc k.put args).run Try.prog w = .ok (.enter k.put args) w := by
  cases k with
  | nat => exact enters_of Try.func95 (by kernel_rfl) rfl
  | int => exact enters_of Try.func98 (by kernel_rfl) rfl
  | flag => exact enters_of Try.func101 (by kernel_rfl) rfl
  | bytes => exact enters_of Try.func103 (by kernel_rfl) rfl
  | row => exact enters_of Try.func106 (by kernel_rfl) rfl
theorem clip_any (l : List UInt8) (A : Option Addr) (n c : Nat) (w : World) (h : OwnA w 5 1 encB (.slice A n c) l) :
    Calls Try.prog 55 #[.slice A n c] w fun e w' => ∃ A' n' c', e = .returned (.slice A' n' c') ∧ OwnA w 5 1 encB (.slice A' n' c') l ∧ (∀ k, (Value.slice A' n' c').ownBlock = some k → (Value.slice A n c).ownBlock = some k) ∧ w = w' := by
  obtain ⟨A0, n0, c0, hv, hn, hle, hmx, hnil⟩ := h.form
  cases hv
  have hs := Lib.hid (OwnA.take encB_len h n n (by rw [hn.out]; exact Nat.le_refl _) (Nat.le_refl _) hle)
  rw [hn.out, List.take_length] at hs
  rw [← hn.out] at hs
  go_enter Try.func55, Try.ntmps55
  go_wp2
  go_ret
  exact ⟨A, n, n, rfl, hs.out, fun k hk => by rw [own_block A n c n n]; exact hk, rfl⟩
end Go.Proofs.Ytoneechcclndaaa.Wire

namespace Go.Proofs.Ytoneechcclndaaa.Wire
open Go.RowKit Go.ChangeShapes Go.WideShapes Go.ChangeAt
set_option linter.unusedVariables false
set_option linter.unusedSimpArgs false
attribute [local go_sem ↓] Go.wp_at_zero Go.wp_at_succ
open Go.Shelf Go.Proofs.Ytoneechcclndaaa.Word

/-- what Put leaves -/
def RetPut (w : World) (x : List UInt8 × Int) (e : Ending) (w' : World) : Prop :=
  Below w.heap.size w w' ∧ ∃ A n c, e = .returned (.tuple #[.slice A n c, .int .i64 x.2]) ∧ OwnA w' 5 1 encB (.slice A n c) x.1 ∧ ∀ k, (Value.slice A n c).ownBlock = some k → w.heap.size ≤ k
theorem RetPut.err {w w' : World} (hb : Below w.heap.size w w') (er : Int) {e : Ending} (he : e = .returned (.tuple #[.slice none 0 0, .int .i64 er])) : RetPut w ([], er) e w' :=
  ⟨hb, none, 0, 0, he, OwnA.nil_ _ _ _ _, fun k hk => by cases hk⟩

theorem fits_len : ∀ (ks : List Kd) (vs : List WV), fitsS ks vs = true → ks.length = vs.length
  | [], [], _ => rfl
  | k :: ks, v :: vs, h => by
    simp only [fitsS, Bool.and_eq_true] at h
    rw [List.length_cons, List.length_cons, fits_len ks vs h.2]
  | [], v :: vs, h => by cases h
  | k :: ks, [], h => by cases h
theorem fits_drop {ks : List Kd} {rs : List Wr} {j : Nat} {k : Kd} {r : Wr} (hk : ks.drop j = k :: ks.drop (j + 1)) (hr : rs.drop j = r :: rs.drop (j + 1)) :
    fitsS (ks.drop j) ((rs.drop j).map Wr.v) = (fitsK k r.v && fitsS (ks.drop (j + 1)) ((rs.drop (j + 1)).map Wr.v)) := by rw [hk, hr]; rfl
theorem put_drop {ks : List Kd} {rs : List Wr} {j : Nat} {k : Kd} {r : Wr} (hk : ks.drop j = k :: ks.drop (j + 1)) (hr : rs.drop j = r :: rs.drop (j + 1)) :
    putS (ks.drop j) ((rs.drop j).map Wr.v) = putK k r.v ++ putS (ks.drop (j + 1)) ((rs.drop (j + 1)).map Wr.v) := by rw [hk, hr]; rfl
theorem any_take {rs : List Wr} {j : Nat} {r : Wr} (h : rs[j]? = some r) : ((rs.take (j + 1)).map Wr.v).any longV = (((rs.take j).map Wr.v).any longV || longV r.v) := by
  rw [List.take_add_one, h]; simp

/-- how far the first loop of Put has come -/
structure P1 (w wr : World) (ks : List Kd) (rs : List Wr) (j : Nat) (lg : Bool) : Prop where
  fit : fitsS ks (rs.map Wr.v) = fitsS (ks.drop j) ((rs.drop j).map Wr.v)
  lg : lg = ((rs.take j).map Wr.v).any longV
  be : Below w.heap.size w wr

theorem putK_len (k : Kd) (v : WV) (hw : v.Wf) (hl : longV v = false) : (putK k v).length ≤ 300000 := by
  simp only [longV, Bool.or_eq_false_iff, decide_eq_false_iff_not] at hl
  have p1 : ∀ m, m < p64 → (putW m).length ≤ 10 := fun m hm => putW_len (p64_lt hm)
  cases k with
  | nat => simp only [putK]; have := p1 _ hw.1; omega
  | int => simp only [putK]; have := p1 _ (fold_lt hw.2.1 hw.2.2.1); omega
  | flag => simp only [putK]; split <;> simp
  | bytes =>
    simp only [putK, List.length_append]
    have := p1 v.b.length (by unfold p64; omega)
    omega
  | row =>
    simp only [putK, List.length_append]
    have := p1 v.l.length (by unfold p64; omega)
    have := rowW_le v.l hw.2.2.2.1
    omega
/-- how far the second loop of Put has come -/
structure P2 (wr wx : World) (ks : List Kd) (rs : List Wr) (j : Nat) (A : Option Addr) (n c : Nat) (acc : List UInt8) : Prop where
  eq : putS ks (rs.map Wr.v) = acc ++ putS (ks.drop j) ((rs.drop j).map Wr.v)
  own : OwnA wx 5 1 encB (.slice A n c) acc
  fr : ∀ k, (Value.slice A n c).ownBlock = some k → wr.heap.size ≤ k
  be : Below wr.heap.size wr wx
  len : acc.length ≤ 300000 * j
theorem P2.next {wr wx w1 w2 : World} {ks : List Kd} {rs : List Wr} {j : Nat} {A A' : Option Addr} {n c n' c' : Nat} {acc p : List UInt8} (h : P2 wr wx ks rs j A n c acc) (hb : Below wx.heap.size wx w1) (hd : putS (ks.drop j) ((rs.drop j).map Wr.v) = p ++ putS (ks.drop (j + 1)) ((rs.drop (j + 1)).map Wr.v))
    (hp : p.length ≤ 300000) (hown : OwnA w2 5 1 encB (.slice A' n' c') (acc ++ p)) (hc : Chg (fun k => (Value.slice A n c).ownBlock = some k) w1 w2)
    (hat : (Value.slice A' n' c').ownBlock = (Value.slice A n c).ownBlock ∨ (Value.slice A' n' c').ownBlock = some w1.heap.size) : P2 wr w2 ks rs (j + 1) A' n' c' (acc ++ p) := by
  have hb1 := ext_under h.be (Nat.le_refl _) hb
  refine ⟨by rw [h.eq, hd, List.append_assoc], hown, fun k hk => ?_, hb1.trans (hc.below hb1.size fun i hi hs => by have := h.fr _ hs; omega), by rw [List.length_append]; have := h.len; omega⟩
  rcases hat with hat | hat
  · exact h.fr k (hat ▸ hk)
  · rw [hat] at hk; injection hk with hk; have := hb1.size; omega

set_option maxHeartbeats 8000000 in
set_option maxRecDepth 100000 in
theorem put_any' (s : ByteArray) (rs : List Wr) (A : Option Addr) (n cap : Nat) (w : World) (hs : s.data.toList.length ≤ 1000000) (hl : VRd w A n rs) :
    Calls Try.prog 18 #[.string s, .slice A n cap] w (RetPut w (putP s.data.toList (rs.map Wr.v))) := by
  obtain ⟨i0, hi, hz, hz1, hz2⟩ := info_parts byInfo
  have hsc := fun W => schema_any s W hs
  generalize s.data.toList = sl at *
  have HL := Lib.hid hl
  have hnb : n ≤ 1000000 := by rw [hl.n.out]; exact hl.le
  cases hsp : schemaP sl with
  | none =>
    rw [hsp] at hsc
    have ht : Hid (putP sl (rs.map Wr.v) = ([], 2)) := by unfold Hid putP; rw [hsp]
    clear hl
    go_enter Try.func18, Try.ntmps18
    go_wp2_with (go_at_call 52; refine (hsc _).mono ?_; rintro e w1 ⟨hb, rfl⟩)
    refine bodyPost_ret (v := .tuple #[.slice none 0 0, .int .i64 2]) (by simp [results, Try.results18, go_sem]) rfl ?_
    rw [ht.out]
    exact RetPut.err hb 2 rfl
  | some ks =>
    rw [hsp] at hsc
    have ht : Hid (putP sl (rs.map Wr.v) = if fitsS ks (rs.map Wr.v) then (if (rs.map Wr.v).any longV then ([], 3) else (putS ks (rs.map Wr.v), 0)) else ([], 2)) := by unfold Hid putP; rw [hsp]
    have hk64 : Hid (ks.length ≤ 64) := by
      unfold schemaP at hsp
      split at hsp
      · rw [Hid, kds_length _ _ hsp]; assumption
      · cases hsp
    clear hl hsp
    by_cases hkn : ks.length = n
    · have hkq : ∀ kn : Nat, kn = n → ((kn : Int) != (n : Int)) = false := fun kn h => by rw [h]; simp
      go_enter Try.func18, Try.ntmps18
      go_wp2_with (go_at_call 52; refine (hsc _).mono ?_; rintro e W ⟨hb, kv, rfl, hko, hkf⟩; obtain ⟨kA, kn, kc, rfl, hkn', hkle, hkmx, hknil⟩ := hko.form; have HK : Hid (OwnA W 88 3 Kd.cells (.slice kA kn kc) ks ∧ Below w.heap.size w W) := ⟨hko, hb⟩; have hkk : kn = n := hkn'.out.trans hkn; have hq1 : ((kn : Int) != (n : Int)) = false := (hkq kn hkk); clear hko hb hkf)
      go_loopg [8, 30] n (fun gk vg vj wr => ∃ (j : Nat) (lg : Bool), vj = .int .i64 (j : Int) ∧ vg = .bool lg ∧ n ≤ j + gk ∧ j ≤ n ∧ Hid (P1 W wr ks rs j lg))
      case atStart => exact ⟨0, false, rfl, rfl, by omega, by omega, rfl, rfl, Below.refl _ _⟩
      case round =>
        obtain ⟨j, lg, rfl, rfl, hgk, hj, hP⟩ := hrel
        have hbw : Hid (Below w.heap.size w wr) := HK.out.2.trans (hP.out.be.mono HK.out.2.size)
        by_cases hjn : j < n
        · have hj1 : j < ks.length := by rw [hkn]; exact hjn
          have hj2 : j < rs.length := by rw [← HL.out.n.out]; exact hjn
          have HR := Lib.hid (HL.out.ext hbw.out)
          have hkx := List.getElem?_eq_getElem hj1
          have hrx := List.getElem?_eq_getElem hj2
          obtain ⟨kb, ko, rfl, hkb, c0, c1, c2'⟩ := Kd.at_ (Sl.ext (HK.out.1.sl Kd.cells_len) hP.out.be) hkx
          obtain ⟨vb, vo, rfl, hvb, y0, y1, y2, y3, y4⟩ := Wr.at_ HR.out.sl hrx
          have hrd := Lib.hid (HR.out.rd _ (List.getElem_mem hj2))
          have HF := Lib.hid (And.intro (fits_drop (List.drop_eq_getElem_cons hj1) (List.drop_eq_getElem_cons hj2)) (any_take hrx))
          generalize ks[j] = k at *
          generalize rs[j] = r at *
          have b0 : (0 : Int) ≤ (j : Int) := Int.natCast_nonneg _
          have b2 : (j : Int) < (kn : Int) := by omega
          have b4 : (j : Int) < (n : Int) := by omega
          have kl : kb ≠ wr.heap.size := by omega
          have hbare := fun W => bare_any r k W
          have hsm : ∀ W2, Hid (Below wr.heap.size wr W2) → Calls Try.prog 53 #[(r.bare k).agg, wr0.agg] W2 fun e w' => e = .returned (.bool (fitsK k r.v)) ∧ Below W2.heap.size W2 w' := fun W2 h2 => by
            have h := same_any (r.bare k) wr0 W2 ((hrd.out.ext h2.out).bare k) (wr0_rd W2)
            rw [fits_bare] at h
            exact h
          rw [wr0_agg] at hsm
          unfold Wr.agg at hbare
          have hba : ∃ ba, ba = (r.bare k).agg := ⟨_, rfl⟩
          obtain ⟨ba, hba⟩ := hba
          rw [← show ba = .agg #[.int .u64 ((r.bare k).v.n : Int), .int .i64 (r.bare k).v.i, .bool (r.bare k).v.f, .slice (r.bare k).bA (r.bare k).bn (r.bare k).bc, .slice (r.bare k).lA (r.bare k).ln (r.bare k).lc] from hba] at hbare
          rw [← hba] at hsm
          unfold fnV at c1 c2'
          cases hfk : fitsK k r.v with
          | false =>
            rw [hfk] at hsm
            have HBA := Lib.hid (And.intro hbare hsm)
            have ht2 : Hid (putP sl (rs.map Wr.v) = ([], 2)) := by rw [Hid, ht.out, if_neg (by rw [hP.out.fit, HF.out.1, hfk]; simp)]
            clear hkx hrx hba hbare hsm hfk
            generalize k.byte = by' at *
            go_upto_region 8 with fail
            go_cut [44] (fun s44 wx => s44 = .bool true ∧ Hid (Below wr.heap.size wr wx))
            case first =>
              go_region_with (first | (go_at_call 54; refine (HBA.out.1 _).mono ?_; rintro e w1 ⟨rfl, hb1⟩; have hb4 : Below wr.heap.size wr w1 := b4_ad hb1) | (go_at_call 53; refine (HBA.out.2 _ (Lib.hid hb4)).mono ?_; rintro e w2 ⟨rfl, hb2⟩; have hb5 := Lib.hid (ext_under hb4 (Nat.le_refl _) hb2)))
              all_goals (go_wp2_with fail; go_meet; exact ⟨rfl, hb5⟩)
            case rest =>
              obtain ⟨rfl, hwx⟩ := hcut
              go_wp2
              refine bodyPost_ret (v := .tuple #[.slice none 0 0, .int .i64 2]) (by simp [results, Try.results18, go_sem]) rfl ?_
              rw [ht2.out]
              exact RetPut.err (ext_under hbw.out (Nat.le_refl _) hwx.out) 2 rfl
          | true =>
            rw [hfk] at hsm
            have HBA := Lib.hid (And.intro hbare hsm)
            obtain ⟨q1, hq1'⟩ : ∃ q, q = decide (262144 < r.bn) := ⟨_, rfl⟩
            obtain ⟨q2, hq2'⟩ : ∃ q, q = decide (4096 < r.ln) := ⟨_, rfl⟩
            have hlv : Hid (longV r.v = (q1 || q2)) := by rw [Hid, hq1', hq2', hrd.out.bn, hrd.out.ln]; rfl
            have d1 : decide ((262144 : Int) < (r.bn : Int)) = q1 := by rw [hq1', Bool.eq_iff_iff]; simp; omega
            have d2 : decide ((4096 : Int) < (r.ln : Int)) = q2 := by rw [hq2', Bool.eq_iff_iff]; simp; omega
            have hN : ∀ lg2, lg2 = (lg || (q1 || q2)) → ∀ wx, Below wr.heap.size wr wx → P1 W wx ks rs (j + 1) lg2 := fun lg2 h2 wx hx =>
              ⟨by rw [hP.out.fit, HF.out.1, hfk]; rfl, by rw [h2, HF.out.2, ← hP.out.lg, hlv.out], ext_under hP.out.be (Nat.le_refl _) hx⟩
            have HN := Lib.hid hN
            clear hkx hrx hba hbare hsm hfk hq1' hq2' hN
            generalize k.byte = by' at *
            go_upto_region 8 with fail
            go_cut [44] (fun s44 wx => s44 = .bool false ∧ Hid (Blk wx wr.heap.size 38 #[.int .u64 (r.v.n : Int), .int .i64 r.v.i, .bool r.v.f, .slice r.bA r.bn r.bc, .slice r.lA r.ln r.lc] ∧ Below wr.heap.size wr wx))
            case first =>
              go_region_with (first | (go_at_call 54; refine (HBA.out.1 _).mono ?_; rintro e w1 ⟨rfl, hb1⟩; have hB9 : Blk w1 wr.heap.size 38 #[.int .u64 (r.v.n : Int), .int .i64 r.v.i, .bool r.v.f, .slice r.bA r.bn r.bc, .slice r.lA r.ln r.lc] := (by with_reducible exact blk_1 hb1); have hb4 : Below wr.heap.size wr w1 := b4_ad hb1) | (go_at_call 53; refine (HBA.out.2 _ (Lib.hid hb4)).mono ?_; rintro e w2 ⟨rfl, hb2⟩; have hb5 := Lib.hid (And.intro (hB9.ext hb2) (ext_under hb4 (Nat.le_refl _) hb2))))
              all_goals (go_wp2_with fail; go_meet; exact ⟨rfl, hb5⟩)
            case rest =>
              obtain ⟨rfl, hwx⟩ := hcut
              have z3 : wc.cell? ⟨wr.heap.size, 3, none⟩ = some (.slice r.bA r.bn r.bc) := hwx.out.1.cell 3
              have z4 : wc.cell? ⟨wr.heap.size, 4, none⟩ = some (.slice r.lA r.ln r.lc) := hwx.out.1.cell 4
              cases lg <;> cases q1 <;> cases q2 <;> (
                go_wp2
                go_roundg (gk - 1)
                case measure => omega
                case rel => exact ⟨j + 1, _, by go_num, rfl, by omega, by omega, HN.out _ rfl _ hwx.out.2⟩)
        · have hfit : Hid (fitsS ks (rs.map Wr.v) = true) := by
            rw [Hid, hP.out.fit, List.drop_of_length_le (by omega), List.drop_of_length_le (by rw [← HL.out.n.out]; omega)]; rfl
          have hlong : Hid (lg = (rs.map Wr.v).any longV) := by
            have h := hP.out.lg
            rw [List.take_of_length_le (by rw [← HL.out.n.out]; omega)] at h
            exact h
          have b2 : ¬ (j : Int) < (n : Int) := by omega
          cases lg with
          | true =>
            have ht2 : Hid (putP sl (rs.map Wr.v) = ([], 3)) := by rw [Hid, ht.out, if_pos hfit.out, if_pos hlong.out.symm]
            go_wp2
            refine bodyPost_ret (v := .tuple #[.slice none 0 0, .int .i64 3]) (by simp [results, Try.results18, go_sem]) rfl ?_
            rw [ht2.out]
            exact RetPut.err hbw.out 3 rfl
          | false =>
            have ht2 : Hid (putP sl (rs.map Wr.v) = (putS ks (rs.map Wr.v), 0)) := by rw [Hid, ht.out, if_pos hfit.out, if_neg (by rw [← hlong.out]; simp)]
            go_wp2
            generalize wr = W1 at *
            go_loopg [11, 62] n (fun g vo vj wx => ∃ (j : Nat) (A2 : Option Addr) (n2 c2 : Nat) (acc : List UInt8), vj = .int .i64 (j : Int) ∧ vo = .slice A2 n2 c2 ∧ n ≤ j + g ∧ j ≤ n ∧ Hid (P2 W1 wx ks rs j A2 n2 c2 acc))
            case atStart => exact ⟨0, none, 0, 0, [], rfl, rfl, by omega, by omega, ⟨rfl, OwnA.nil_ _ _ _ _, (fun k hk => by cases hk), Below.refl _ _, Nat.zero_le _⟩⟩
            case round =>
              obtain ⟨q, A2, n2, c2, acc, rfl, rfl, hg2, hq, hP2⟩ := hrel
              by_cases hqn : q < n
              · have hj1 : q < ks.length := by rw [hkn]; exact hqn
                have hj2 : q < rs.length := by rw [← HL.out.n.out]; exact hqn
                have hbx : Hid (Below w.heap.size w wr) := ext_under hbw.out (Nat.le_refl _) hP2.out.be
                have HR := Lib.hid (HL.out.ext hbx.out)
                have hkx := List.getElem?_eq_getElem hj1
                have hrx := List.getElem?_eq_getElem hj2
                obtain ⟨kb, ko, hkA, hkb, c0, c1, c2'⟩ := Kd.at_ (Sl.ext (HK.out.1.sl Kd.cells_len) (ext_under hP.out.be (Nat.le_refl _) hP2.out.be)) hkx
                subst hkA
                obtain ⟨vb, vo, hvA, hvb, y0, y1, y2, y3, y4⟩ := Wr.at_ HR.out.sl hrx
                subst hvA
                have hrd := Lib.hid (HR.out.rd _ (List.getElem_mem hj2))
                have HF := Lib.hid (put_drop (List.drop_eq_getElem_cons hj1) (List.drop_eq_getElem_cons hj2))
                have hnl : longV rs[q].v = false := by
                  have h := hlong.out
                  cases hv : longV rs[q].v with
                  | false => rfl
                  | true => exact absurd (List.any_eq_true.2 ⟨rs[q].v, List.mem_map.2 ⟨rs[q], List.getElem_mem hj2, rfl⟩, hv⟩) (by rw [← h]; simp)
                generalize ks[q] = k at *
                generalize rs[q] = r at *
                have hplen := putK_len k r.v hrd.out.wf hnl
                have h1 : Hid (acc.length + (putK k r.v).length ≤ maxLen) := by have := hP2.out.len; rw [Hid]; unfold maxLen; omega
                have h2 : Hid ((acc.length + (putK k r.v).length) * 1 ≤ 140737488355328) := by have := hP2.out.len; rw [Hid]; omega
                have b0 : (0 : Int) ≤ (q : Int) := Int.natCast_nonneg _
                have b2 : (q : Int) < (n : Int) := by omega
                have b3 : decide (q < n) = true := decide_eq_true hqn
                have hen := pk_enters k
                have hpk : ∀ W2, Hid (Below wr.heap.size wr W2) → Calls Try.prog k.put #[r.agg] W2 (RetA W2 5 1 encB (putK k r.v)) := fun W2 h => pk_any k r W2 (hrd.out.ext h.out)
                unfold Wr.agg at hpk
                have HPK := Lib.hid hpk
                have HPL := Lib.hid hplen
                unfold fnV at c1 c2'
                clear hkx hrx hpk hplen hnl
                generalize k.byte = by' at *
                generalize k.take = ft at *
                generalize k.put = fp at *
                go_upto_region 18 with fail
                go_region_law (first | (go_simp; refine (HPK.out _ ?_).mono ?_; (with_reducible exact hb_ad wr _); rintro e w1 ⟨v1, rfl, hown1, hfr1, hb1⟩; obtain ⟨A1, n1, c1', rfl, hn1, hle1, hmx1, hnil1⟩ := hown1.form; have HP := Lib.hid (And.intro hown1 (b4_ad hb1)); clear hown1 hfr1 hb1; dsimp only) | (refine step_append_a _ rfl _ _ _ rfl 5 i0 _ 1 1 Try.underlying25 hi hz hz1 hz2 rfl (by decide) encB_len encB_one _ acc (by rfl) (hP2.out.own.ext HP.out.2) _ A1 (putK k r.v) n1 c1' (by rfl) hn1.out (HP.out.1.sl encB_len) h1.out h2.out ?_; intro v' w' hown' hchg hat; obtain ⟨A3, n3, c3, rfl, hn3, hle3, hmx3, hnil3⟩ := hown'.form; have HA := Lib.hid (And.intro hown' (And.intro hchg hat)); clear hown' hchg hat))
                all_goals (
                  go_wp2
                  go_roundg (gk - 1)
                  case measure => omega
                  case rel => exact ⟨q + 1, A3, n3, c3, acc ++ putK k r.v, by go_num, rfl, by omega, by omega, hP2.out.next HP.out.2 HF.out HPL.out HA.out.1 HA.out.2.1 HA.out.2.2⟩)
              · have hout : Hid (acc = putS ks (rs.map Wr.v)) := by
                  rw [Hid, hP2.out.eq, List.drop_of_length_le (show ks.length ≤ q by omega), List.drop_of_length_le (show rs.length ≤ q by rw [← HL.out.n.out]; omega)]; simp [putS]
                have b2 : ¬ (q : Int) < (n : Int) := by omega
                have b3 : decide (q < n) = false := decide_eq_false hqn
                have hcl := Lib.hid (clip_any acc A2 n2 c2 wr hP2.out.own)
                go_wp2_with (go_at_call 55; refine hcl.out.mono ?_; rintro e w3 ⟨A4, n4, c4, rfl, hown4, hbl4, rfl⟩)
                refine bodyPost_ret (v := .tuple #[.slice A4 n4 c4, .int .i64 0]) (by simp [results, Try.results18, go_sem]) rfl ?_
                rw [ht2.out, ← hout.out]
                exact ⟨ext_under hbw.out (Nat.le_refl _) hP2.out.be, A4, n4, c4, rfl, hown4, fun k hk => Nat.le_trans hbw.out.size (hP2.out.fr k (hbl4 k hk))⟩
    · have ht2 : Hid (putP sl (rs.map Wr.v) = ([], 2)) := by
        rw [Hid, ht.out, if_neg]
        intro hf
        have := fits_len _ _ hf
        rw [List.length_map, ← HL.out.n.out] at this
        exact hkn this
      have hne' : ∀ kn, Hid (kn = ks.length) → ((kn : Int) != (n : Int)) = true ∧ (kn != n) = true ∧ ¬ kn = n := fun kn h => by
        have := h.out
        refine ⟨by simp; omega, by simp; omega, by omega⟩
      go_enter Try.func18, Try.ntmps18
      go_wp2_with (go_at_call 52; refine (hsc _).mono ?_; rintro e W ⟨hb, kv, rfl, hko, hkf⟩; obtain ⟨kA, kn, kc, rfl, hkn', hkle, hkmx, hknil⟩ := hko.form; have HB := Lib.hid hb; obtain ⟨hne, hne2, hne3⟩ := hne' kn hkn'; clear hko hb hkf)
      refine bodyPost_ret (v := .tuple #[.slice none 0 0, .int .i64 2]) (by simp [results, Try.results18, go_sem]) rfl ?_
      rw [ht2.out]
      exact RetPut.err HB.out 2 rfl
end Go.Proofs.Ytoneechcclndaaa.Wire

namespace Go.Proofs.Ytoneechcclndaaa.Wire
open Go.Proofs.Ytoneechcclndaaa.Word
set_option linter.unusedVariables false
set_option linter.unusedSimpArgs false

theorem takeL_put : ∀ (l : List Nat) (r : List UInt8), (∀ x ∈ l, x < p64) → takeL l.length (rowW l ++ r) = some (l, (rowW l).length)
  | [], r, _ => rfl
  | x :: l, r, h => by
    have hx := h x (by simp)
    have e : rowW (x :: l) ++ r = putW x ++ (rowW l ++ r) := by simp [rowW]
    have e2 : rowW (x :: l) = putW x ++ rowW l := by simp [rowW]
    rw [List.length_cons, takeL, e, get_put hx]
    simp only
    rw [List.drop_left, takeL_put l r (fun y hy => h y (by simp [hy]))]
    simp [e2]
theorem takeK_put (k : Kd) (v : WV) (r : List UInt8) (hf : fitsK k v = true) (hw : v.Wf) (hl : longV v = false) : takeK k (putK k v ++ r) = some (v, (putK k v).length) := by
  obtain ⟨n, i, f, b, l⟩ := v
  simp only [longV, Bool.or_eq_false_iff, decide_eq_false_iff_not] at hl
  cases k with
  | nat =>
    simp only [fitsK, Bool.and_eq_true, beq_iff_eq, Bool.not_eq_true', List.isEmpty_iff] at hf
    obtain ⟨⟨⟨rfl, rfl⟩, rfl⟩, rfl⟩ := hf
    simp only [takeK, putK]
    rw [get_put hw.1]
    rfl
  | int =>
    simp only [fitsK, Bool.and_eq_true, beq_iff_eq, Bool.not_eq_true', List.isEmpty_iff] at hf
    obtain ⟨⟨⟨rfl, rfl⟩, rfl⟩, rfl⟩ := hf
    simp only [takeK, putK]
    rw [get_put (fold_lt hw.2.1 hw.2.2.1)]
    simp only [Option.map_some, unfold_fold]
    rfl
  | flag =>
    simp only [fitsK, Bool.and_eq_true, beq_iff_eq, Bool.not_eq_true', List.isEmpty_iff] at hf
    obtain ⟨⟨⟨rfl, rfl⟩, rfl⟩, rfl⟩ := hf
    cases f <;> rfl
  | bytes =>
    simp only [fitsK, Bool.and_eq_true, beq_iff_eq, Bool.not_eq_true', List.isEmpty_iff] at hf
    obtain ⟨⟨⟨rfl, rfl⟩, rfl⟩, rfl⟩ := hf
    have e : putK .bytes ⟨0, 0, false, b, []⟩ ++ r = putW b.length ++ (b ++ r) := by simp [putK]
    have e2 : putK .bytes ⟨0, 0, false, b, []⟩ = putW b.length ++ b := rfl
    rw [e, e2]
    unfold takeK
    simp only
    rw [get_put (by unfold p64; omega)]
    simp only
    rw [if_pos ⟨by omega, by simp⟩, List.drop_left, List.take_left]
    simp [wv0]
  | row =>
    simp only [fitsK, Bool.and_eq_true, beq_iff_eq, Bool.not_eq_true', List.isEmpty_iff] at hf
    obtain ⟨⟨⟨rfl, rfl⟩, rfl⟩, rfl⟩ := hf
    simp only [takeK, putK]
    rw [List.append_assoc, get_put (by unfold p64; omega)]
    simp only
    rw [if_pos (by omega), List.drop_left, takeL_put l r hw.2.2.2.1]
    simp [wv0]
theorem takeS_put : ∀ (ks : List Kd) (vs : List WV) (r : List UInt8), fitsS ks vs = true → (∀ v ∈ vs, v.Wf) → vs.any longV = false → takeS ks (putS ks vs ++ r) = some (vs, (putS ks vs).length)
  | [], [], r, _, _, _ => rfl
  | k :: ks, v :: vs, r, hf, hw, hl => by
    simp only [fitsS, Bool.and_eq_true] at hf
    simp only [List.any_cons, Bool.or_eq_false_iff] at hl
    rw [putS, List.append_assoc, takeS, takeK_put k v _ hf.1 (hw v (by simp)) hl.1]
    simp only
    rw [List.drop_left, takeS_put ks vs r hf.2 (fun x hx => hw x (by simp [hx])) hl.2]
    simp
  | [], v :: vs, r, h, _, _ => by cases h
  | k :: ks, [], r, h, _, _ => by cases h

theorem put_takeL : ∀ (m : Nat) (b : List UInt8) (ys : List Nat) (u : Nat), takeL m b = some (ys, u) → rowW ys = b.take u ∧ ys.length = m ∧ (∀ y ∈ ys, y < p64) ∧ u ≤ b.length
  | 0, b, ys, u, h => by
    simp only [takeL, Option.some.injEq, Prod.mk.injEq] at h
    obtain ⟨rfl, rfl⟩ := h
    exact ⟨rfl, rfl, by simp, by omega⟩
  | m + 1, b, ys, u, h => by
    unfold takeL at h
    cases hg : getW b with
    | none => rw [hg] at h; cases h
    | some x =>
      obtain ⟨x, k⟩ := x
      rw [hg] at h
      simp only at h
      cases hr : takeL m (b.drop k) with
      | none => rw [hr] at h; cases h
      | some y =>
        obtain ⟨zs, t⟩ := y
        rw [hr] at h
        simp only [Option.map_some, Option.some.injEq, Prod.mk.injEq] at h
        obtain ⟨rfl, rfl⟩ := h
        obtain ⟨h1, h2, h3, h4⟩ := put_takeL m _ _ _ hr
        have hs := get_some hg
        rw [List.length_drop] at h4
        refine ⟨?_, by simp [h2], ?_, by have := hs.2.2.2.1; omega⟩
        · have e : rowW (x :: zs) = putW x ++ rowW zs := by simp [rowW]
          rw [e, h1, ← hs.2.2.1, List.take_add]
        · intro y hy
          rcases List.mem_cons.1 hy with rfl | hy
          · exact hs.1
          · exact h3 y hy
theorem put_takeK {k : Kd} {b : List UInt8} {v : WV} {u : Nat} (h : takeK k b = some (v, u)) : putK k v = b.take u ∧ fitsK k v = true ∧ v.Wf ∧ longV v = false ∧ u ≤ b.length := by
  have hle := (takeK_le h).2
  cases k with
  | nat =>
    simp only [takeK] at h
    cases hg : getW b with
    | none => rw [hg] at h; cases h
    | some x =>
      obtain ⟨x, t⟩ := x
      rw [hg] at h
      simp only [Option.map_some, Option.some.injEq, Prod.mk.injEq] at h
      obtain ⟨rfl, rfl⟩ := h
      have hs := get_some hg
      exact ⟨hs.2.2.1.symm, rfl, ⟨hs.1, wv0_wf.2⟩, rfl, hle⟩
  | int =>
    simp only [takeK] at h
    cases hg : getW b with
    | none => rw [hg] at h; cases h
    | some x =>
      obtain ⟨x, t⟩ := x
      rw [hg] at h
      simp only [Option.map_some, Option.some.injEq, Prod.mk.injEq] at h
      obtain ⟨rfl, rfl⟩ := h
      have hs := get_some hg
      have hb := unfold_bd hs.1
      exact ⟨by simp only [putK, fold_unfold]; exact hs.2.2.1.symm, rfl, ⟨wv0_wf.1, hb.1, hb.2, wv0_wf.2.2.2⟩, rfl, hle⟩
  | flag =>
    cases b with
    | nil => cases h
    | cons d b =>
      simp only [takeK] at h
      split at h
      · simp only [Option.some.injEq, Prod.mk.injEq] at h
        obtain ⟨rfl, rfl⟩ := h
        rename_i hd
        refine ⟨?_, rfl, wv0_wf, rfl, hle⟩
        have h2 : d = 0 ∨ d = 1 := by
          rcases (show d.toNat = 0 ∨ d.toNat = 1 by omega) with h | h
          · left; exact UInt8.toNat_inj.1 h
          · right; exact UInt8.toNat_inj.1 h
        rcases h2 with rfl | rfl <;> rfl
      · cases h
  | bytes =>
    simp only [takeK] at h
    cases hg : getW b with
    | none => rw [hg] at h; cases h
    | some x =>
      obtain ⟨x, t⟩ := x
      rw [hg] at h
      simp only at h
      have hs := get_some hg
      split at h
      · rename_i hc
        simp only [Option.some.injEq, Prod.mk.injEq] at h
        obtain ⟨rfl, rfl⟩ := h
        have hlen : ((b.drop t).take x).length = x := by rw [List.length_take, List.length_drop]; omega
        refine ⟨?_, rfl, ⟨wv0_wf.1, wv0_wf.2.1, wv0_wf.2.2.1, wv0_wf.2.2.2.1, by simp only [hlen]; omega, wv0_wf.2.2.2.2.2⟩, ?_, hle⟩
        · simp only [putK, hlen]
          rw [← hs.2.2.1, List.take_add]
        · simp only [longV, hlen, Bool.or_eq_false_iff, decide_eq_false_iff_not]
          exact ⟨by omega, by simp [wv0]⟩
      · cases h
  | row =>
    simp only [takeK] at h
    cases hg : getW b with
    | none => rw [hg] at h; cases h
    | some x =>
      obtain ⟨x, t⟩ := x
      rw [hg] at h
      simp only at h
      have hs := get_some hg
      split at h
      · rename_i hc
        cases hr : takeL x (b.drop t) with
        | none => rw [hr] at h; cases h
        | some y =>
          obtain ⟨ys, q⟩ := y
          rw [hr] at h
          simp only [Option.map_some, Option.some.injEq, Prod.mk.injEq] at h
          obtain ⟨rfl, rfl⟩ := h
          obtain ⟨h1, h2, h3, h4⟩ := put_takeL x _ _ _ hr
          refine ⟨?_, rfl, ⟨wv0_wf.1, wv0_wf.2.1, wv0_wf.2.2.1, h3, wv0_wf.2.2.2.2.1, by simp only [h2]; omega⟩, ?_, hle⟩
          · simp only [putK, h2]
            rw [h1, ← hs.2.2.1, List.take_add]
          · simp only [longV, h2, Bool.or_eq_false_iff, decide_eq_false_iff_not]
            exact ⟨by simp [wv0], by omega⟩
      · cases h
theorem put_takeS : ∀ (ks : List Kd) (b : List UInt8) (vs : List WV) (u : Nat), takeS ks b = some (vs, u) → putS ks vs = b.take u ∧ fitsS ks vs = true ∧ (∀ v ∈ vs, v.Wf) ∧ vs.any longV = false ∧ u ≤ b.length
  | [], b, vs, u, h => by
    simp only [takeS, Option.some.injEq, Prod.mk.injEq] at h
    obtain ⟨rfl, rfl⟩ := h
    exact ⟨rfl, rfl, by simp, rfl, by omega⟩
  | k :: ks, b, vs, u, h => by
    unfold takeS at h
    cases hk : takeK k b with
    | none => rw [hk] at h; cases h
    | some x =>
      obtain ⟨v, t⟩ := x
      rw [hk] at h
      simp only at h
      cases hr : takeS ks (b.drop t) with
      | none => rw [hr] at h; cases h
      | some y =>
        obtain ⟨ws, q⟩ := y
        rw [hr] at h
        simp only [Option.map_some, Option.some.injEq, Prod.mk.injEq] at h
        obtain ⟨rfl, rfl⟩ := h
        obtain ⟨a1, a2, a3, a4, a5⟩ := put_takeK hk
        obtain ⟨b1, b2, b3, b4, b5⟩ := put_takeS ks _ _ _ hr
        rw [List.length_drop] at b5
        refine ⟨by rw [putS, a1, b1, List.take_add], by simp [fitsS, a2, b2], ?_, by simp [a4, b4], by omega⟩
        intro z hz
        rcases List.mem_cons.1 hz with rfl | hz
        · exact a3
        · exact b3 z hz
/-- a form without its last bytes is none -/
theorem take_torn (ks : List Kd) (vs : List WV) (m : Nat) (hf : fitsS ks vs = true) (hw : ∀ v ∈ vs, v.Wf) (hl : vs.any longV = false) (hm : m < (putS ks vs).length) : takeS ks ((putS ks vs).take m) = none := by
  cases ht : takeS ks ((putS ks vs).take m) with
  | none => rfl
  | some y =>
    exfalso
    obtain ⟨ws, u⟩ := y
    obtain ⟨h1, h2, h3, h4, h5⟩ := put_takeS ks _ _ _ ht
    rw [List.length_take] at h5
    have hum : u ≤ m := by omega
    have e : putS ks ws = (putS ks vs).take u := by rw [h1, List.take_take, Nat.min_eq_left hum]
    have a := takeS_put ks ws ((putS ks vs).drop u) h2 h3 h4
    rw [e, List.take_append_drop] at a
    have b := takeS_put ks vs [] hf hw hl
    rw [List.append_nil, a] at b
    simp only [Option.some.injEq, Prod.mk.injEq] at b
    have hlen := b.2
    rw [List.length_take] at hlen
    omega
end Go.Proofs.Ytoneechcclndaaa.Wire

namespace Go.Proofs.Ytoneechcclndaaa.Wire
open Go.Proofs.Ytoneechcclndaaa.Word
set_option linter.unusedVariables false
set_option linter.unusedSimpArgs false

theorem kds_append : ∀ (s t : List UInt8) (ks ls : List Kd), kdsOf s = some ks → kdsOf t = some ls → kdsOf (s ++ t) = some (ks ++ ls)
  | [], t, ks, ls, h1, h2 => by
    simp only [kdsOf, Option.some.injEq] at h1
    subst h1
    simpa using h2
  | x :: s, t, ks, ls, h1, h2 => by
    unfold kdsOf at h1
    cases hk : kdOf x.toNat with
    | none => rw [hk] at h1; cases h1
    | some k =>
      rw [hk] at h1
      cases hs : kdsOf s with
      | none => rw [hs] at h1; cases h1
      | some r =>
        rw [hs] at h1
        simp only [Option.map_some, Option.some.injEq] at h1
        subst h1
        rw [List.cons_append, kdsOf, hk]
        simp only
        rw [kds_append s t r ls hs h2]
        rfl
theorem fits_append : ∀ (ks ls : List Kd) (vs us : List WV), fitsS ks vs = true → fitsS ls us = true → fitsS (ks ++ ls) (vs ++ us) = true ∧ putS (ks ++ ls) (vs ++ us) = putS ks vs ++ putS ls us
  | [], ls, [], us, _, h2 => ⟨h2, rfl⟩
  | k :: ks, ls, v :: vs, us, h1, h2 => by
    simp only [fitsS, Bool.and_eq_true] at h1
    obtain ⟨a, b⟩ := fits_append ks ls vs us h1.2 h2
    exact ⟨by simp [fitsS, h1.1, a], by simp [putS, b]⟩
  | [], ls, v :: vs, us, h1, _ => by cases h1
  | k :: ks, ls, [], us, h1, _ => by cases h1
end Go.Proofs.Ytoneechcclndaaa.Wire
