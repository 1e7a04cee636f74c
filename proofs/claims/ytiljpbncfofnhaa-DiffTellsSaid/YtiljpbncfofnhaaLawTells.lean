/- DiffTells: the difference of any two rows of fragments, and what stays, is what the document says; they stay, and what is told is the caller's own: whatever the input, the law returns true and leaves its arguments as they were. -/
import Derived.Test.YtiljpbncfofnhaaDfI
import Derived.Test.YtiljpbncfofnhaaDfL
import Derived.Test.YtiljpbncfofnhaaOpen
import Derived.Test.YtiljpbncfofnhaaLift
import Derived.Outline
import Derived.BigQuiet
import Derived.Deep.QuietTactic
import Derived.Deep.RegionWith
import Derived.Deep.RegionHeld3
import Derived.Deep.DrawnRows
import Derived.Deep.LoopGhost
import Derived.Deep.DeepCutAuto
import Derived.Laws.EntriesVeiled
import Derived.BigQuiet
namespace Go.Proofs.Ytiljpbncfofnhaa.lawTells
open Go.RowKit Go.ChangeShapes Go.WideShapes Go.ChangeAt
set_option linter.unusedVariables false
set_option linter.unusedSimpArgs false
attribute [local go_sem ↓] Go.wp_at_zero Go.wp_at_succ
open FragA FragB MayA Tree FCheck EdB EdC EdF Dif
attribute [local go_sem] frEq'

theorem own_sl {w w' : World} {e : TypeId} {c : Nat} {α : Type} {enc : α → List Value} {l : List α} {r : Ending} (he : ∀ x, (enc x).length = c) (h : RetOwn w e c enc l r w') : ∃ A cap, r = .returned (.slice A l.length cap) ∧ Sl w' w'.heap.size c enc A l ∧ l.length ≤ cap ∧ Below w.heap.size w w' := by
  obtain ⟨v, rfl, ho, hb⟩ := h
  obtain ⟨A, n, cap, rfl, hn, hle, _⟩ := ho.form
  obtain rfl := hn.out
  exact ⟨A, cap, rfl, ho.sls he, hle, hb⟩
theorem df_sl {w w' : World} {xl : List Ed} {xe : Int} {r : Ending} (h : RetDf w (xl, xe) r w') : ∃ A cap, r = .returned (.tuple #[.slice A xl.length cap, .int .i64 xe]) ∧ OwnA w' 69 12 Ed.cells (.slice A xl.length cap) xl ∧ (∀ b, (Value.slice A xl.length cap).ownBlock = some b → w.heap.size ≤ b) ∧ Below w.heap.size w w' ∧ xl.length ≤ maxLen := by
  obtain ⟨A, n, cap, rfl, ho, hf, hb⟩ := h
  obtain rfl := ho.len
  obtain ⟨A2, n2, c2, hv, hn2, h1, h2, _⟩ := ho.form
  injection hv with e1 e2 e3
  subst e3
  exact ⟨A, cap, rfl, ho, hf, hb, by show xl.length ≤ maxLen; have h9 : xl.length = n2 := hn2.out.symm; rw [h9]; exact Nat.le_trans h1 h2⟩
theorem st_sl {w w' : World} {xl : List (Nat × Nat)} {xe : Int} {r : Ending} (h : RetSt w (xl, xe) r w') : ∃ A cap, r = .returned (.tuple #[.slice A xl.length cap, .int .i64 xe]) ∧ OwnA w' 87 2 encP (.slice A xl.length cap) xl ∧ (∀ b, (Value.slice A xl.length cap).ownBlock = some b → w.heap.size ≤ b) ∧ Below w.heap.size w w' ∧ xl.length ≤ maxLen := by
  obtain ⟨v, rfl, ho, hf, hb⟩ := h
  obtain ⟨A, n2, c2, rfl, hn2, h1, h2, _⟩ := ho.form
  obtain rfl := hn2.out
  exact ⟨A, c2, rfl, ho, hf, hb, Nat.le_trans h1 h2⟩
/-- pairs of int's -/
def encZ (x : Int × Int) : List Value := [.int .i64 x.1, .int .i64 x.2]
theorem encZ_len (x : Int × Int) : (encZ x).length = 2 := rfl
def zs (l : List (Nat × Nat)) : List (Int × Int) := l.map fun x => ((x.1 : Int), (x.2 : Int))
theorem own_zs {w : World} {v : Value} {l : List (Nat × Nat)} (h : OwnA w 87 2 encP v l) : OwnA w 87 2 encZ v (zs l) := by
  have e : (zs l).flatMap encZ = l.flatMap encP := by rw [zs, List.flatMap_map]; rfl
  rcases h with ⟨hv, rfl⟩ | ⟨g, off, cap, cur, hv, h1, h2, h3, h4, h5⟩
  · exact .inl ⟨hv, rfl⟩
  · exact .inr ⟨g, off, cap, cur, by rw [hv, zs, List.length_map], h1, by rw [zs, List.length_map]; exact h2, h3, h4, by rw [e, zs, List.length_map]; exact h5⟩
theorem pairEq (a b c d : Int) (w : World) : (Op.equalIn 10000 87 (.agg #[.int .i64 a, .int .i64 b]) (.agg #[.int .i64 c, .int .i64 d])).run Try.prog w = .ok (a == c && b == d) w := by
  have hu : Try.prog.underlying 87 = some (.array 2 3) := by kernel_rfl
  obtain ⟨i, hi⟩ : ∃ i, Try.prog.info? 3 = some i := Option.isSome_iff_exists.1 (by kernel_rfl)
  have h1 : Try.prog.cellsOf 3 = 1 := by kernel_rfl
  have hk := Try.underlying3
  have hr : List.range 2 = [0, 1] := rfl
  rw [run_equalIn_array w 9999 _ _ hu hi, h1, hr]
  have hp : Try.prog.plainKey 3 = true := by kernel_rfl
  simp only [Op.eqItems, Sem.run_bind, Nat.zero_mul, Nat.one_mul]
  rw [run_part_plain w hp (v := .int .i64 a) rfl]
  simp only [Result.andThen_ok]
  rw [run_part_plain w hp (v := .int .i64 c) rfl]
  simp only [Result.andThen_ok]
  rw [run_equalIn_int w 9998 _ _ _ _ _ hk]
  simp only [Result.andThen_ok]
  cases hac : (a == c)
  · simp
  · simp only [Bool.not_true, Bool.false_eq_true, if_false, Sem.run_bind]
    rw [run_part_plain w hp (v := .int .i64 b) rfl]
    simp only [Result.andThen_ok]
    rw [run_part_plain w hp (v := .int .i64 d) rfl]
    simp only [Result.andThen_ok]
    rw [run_equalIn_int w 9998 _ _ _ _ _ hk]
    simp only [Result.andThen_ok]
    cases (b == d) <;> simp
theorem pairSame (a b : Int) (w : World) : (binOp .neq 87 (.agg #[.int .i64 a, .int .i64 b]) (.agg #[.int .i64 a, .int .i64 b])).run Try.prog w = .ok (.bool false) w := by
  rw [run_neq_struct, pairEq]
  simp
attribute [local go_sem ↓] pairSame
/-- the law's own copies and what the document told, as they stand since W1 -/
structure Tl (W1 : World) (Ax Ay Aw As : Option Addr) (a b : List Fr) (xl : List Ed) (sl : List (Nat × Nat)) : Prop where
  x : FrSl W1 W1.heap.size Ax a
  y : FrSl W1 W1.heap.size Ay b
  want : EdSl W1 W1.heap.size Aw xl
  stay : Sl W1 W1.heap.size 2 encP As sl
theorem slw {α : Type} {c : Nat} {enc : α → List Value} {W1 wr : World} {A : Option Addr} {l : List α} (h : Sl W1 W1.heap.size c enc A l) (hb : Below W1.heap.size W1 wr) : Sl wr wr.heap.size c enc A l := (h.below hb).more hb.size
/-- what was told in this turn -/
structure Tu (W1 wr : World) (Ag Al : Option Addr) (q cg p cl : Nat) (xs : List Ed) (ys : List (Int × Int)) : Prop where
  got : OwnA wr 69 12 Ed.cells (.slice Ag q cg) xs
  st : OwnA wr 87 2 encZ (.slice Al p cl) ys
  fg : ∀ b, (Value.slice Ag q cg).ownBlock = some b → W1.heap.size ≤ b
  fs : ∀ b, (Value.slice Al p cl).ownBlock = some b → W1.heap.size ≤ b
  be : Below W1.heap.size W1 wr
theorem Tu.ext {W1 wr w' : World} {Ag Al : Option Addr} {q cg p cl : Nat} {xs : List Ed} {ys : List (Int × Int)} (h : Tu W1 wr Ag Al q cg p cl xs ys) (hb : Below wr.heap.size wr w') : Tu W1 w' Ag Al q cg p cl xs ys := ⟨h.got.ext hb, h.st.ext hb, h.fg, h.fs, ext_under h.be (Nat.le_refl _) hb⟩
theorem Tu.spoil {W1 wr : World} {Ag : Option Addr} {pg po q cg p cl : Nat} {xs : List Ed} {ys : List (Int × Int)} (h : Tu W1 wr Ag (some ⟨pg, po, none⟩) q cg p cl xs ys) {i : Nat} {x : Int × Int} (hx : ys[i]? = some x) :
    Tu W1 ((wr.setCell ⟨pg, po + i * 2, none⟩ (.int .i64 (-1))).setCell ⟨pg, po + i * 2 + 1, none⟩ (.int .i64 (-1))) Ag (some ⟨pg, po, none⟩) q cg p cl xs (ys.set i (-1, -1)) := by
  have hil := (List.getElem?_eq_some_iff.1 hx).1
  have h1 := h.st.store encZ_len hx (j := 0) (x' := (-1, x.2)) (u := .int .i64 (-1)) (by omega) rfl
  have h2 := h1.store encZ_len (k := i) (x := (-1, x.2)) (by rw [List.getElem?_set, if_pos rfl, if_pos hil]) (j := 1) (x' := (-1, -1)) (u := .int .i64 (-1)) (by omega) rfl
  rw [List.set_set] at h2
  have hset : Chg (fun k => k = pg) wr ((wr.setCell ⟨pg, po + i * 2, none⟩ (.int .i64 (-1))).setCell ⟨pg, po + i * 2 + 1, none⟩ (.int .i64 (-1))) := ((Chg.refl (fun k => k = pg) wr).setCell (p := ⟨pg, _, none⟩) (fun _ => rfl) _).setCell (p := ⟨pg, _, none⟩) (fun _ => rfl) _
  exact ⟨h.got.chg hset (fun b hb e => by subst e; exact h.st.apartA h.got (by decide) rfl hb), h2, h.fg, h.fs, h.be.trans (hset.below h.be.size (fun k hk e => by have := h.fs pg rfl; omega))⟩
theorem Tu.kind {W1 wr : World} {Al : Option Addr} {vb vo q cg p cl : Nat} {xs : List Ed} {ys : List (Int × Int)} (h : Tu W1 wr (some ⟨vb, vo, none⟩) Al q cg p cl xs ys) {i : Nat} {x : Ed} (hx : xs[i]? = some x) :
    Tu W1 (wr.setCell ⟨vb, vo + i * 12, none⟩ (.int .u8 99)) (some ⟨vb, vo, none⟩) Al q cg p cl (xs.set i ⟨99, x.n, x.node, x.part, x.f⟩) ys := by
  have h1 := h.got.store Ed.cells_len hx (j := 0) (x' := ⟨99, x.n, x.node, x.part, x.f⟩) (u := .int .u8 99) (by omega) rfl
  have hset : Chg (fun k => k = vb) wr (wr.setCell ⟨vb, vo + i * 12, none⟩ (.int .u8 99)) := (Chg.refl (fun k => k = vb) wr).setCell (p := ⟨vb, _, none⟩) (fun _ => rfl) _
  exact ⟨h1, h.st.chg hset (fun b hb e => by subst e; exact h.got.apartA h.st (by decide) rfl hb), h.fg, h.fs, h.be.trans (hset.below h.be.size (fun k hk e => by have := h.fg vb rfl; omega))⟩
theorem ZSl.at_ {w : World} {B : Nat} {A : Option Addr} {l : List (Int × Int)} (h : Sl w B 2 encZ A l) {k : Nat} {x : Int × Int} (hx : l[k]? = some x) :
    ∃ g off, A = some ⟨g, off, none⟩ ∧ g < B ∧ w.cell? ⟨g, off + k * 2, none⟩ = some (.int .i64 x.1) ∧ w.cell? ⟨g, off + k * 2 + 1, none⟩ = some (.int .i64 x.2) := by
  obtain ⟨g, off, e, hb, hc⟩ := Sl.at_ h hx
  exact ⟨g, off, e, hb, hc 0 _ rfl, hc 1 _ rfl⟩
set_option maxRecDepth 100000 in
set_option maxHeartbeats 8000000 in
theorem walk (a b : List Fr) (A : Option Addr) (ca : Nat) (B : Option Addr) (cb : Nat) (w : World) (ha : FrSl w w.heap.size A a) (h63 : a.length ≤ maxLen) (hwa : FrsWf a) (hb : FrSl w w.heap.size B b) (m63 : b.length ≤ maxLen) (hwb : FrsWf b) :
    Calls Try.prog 6 #[.slice A a.length ca, .slice B b.length cb] w fun e w' => e = .returned (.bool true) ∧ Below w.heap.size w w' := by
  have G1 := Lib.hid (great_any a A ca w ha h63 hwa)
  have G2 := Lib.hid (great_any b B cb w hb m63 hwb)
  have HL := Lib.hid (And.intro ha (And.intro hwa (And.intro hb hwb)))
  clear ha hwa hb hwb
  cases g1 : greatFrom 0 0 a with
  | true =>
    rw [g1] at G1
    clear g1
    go_enter Try.func6, Try.ntmps6
    go_wp2_with fail
    refine (G1.out).mono ?_; rintro e w' ⟨rfl, rfl⟩
    go_wp2
    go_ret
    exact ⟨rfl, Below.refl _ _⟩
  | false =>
    rw [g1] at G1
    have hl200 := great_le g1
    clear g1
    cases g2 : greatFrom 0 0 b with
    | true =>
      rw [g2] at G2
      clear g2
      go_enter Try.func6, Try.ntmps6
      go_wp2_with fail
      refine (G1.out).mono ?_; rintro e w' ⟨rfl, rfl⟩
      go_wp2_with fail
      refine (G2.out).mono ?_; rintro e w' ⟨rfl, rfl⟩
      go_wp2
      go_ret
      exact ⟨rfl, Below.refl _ _⟩
    | false =>
      rw [g2] at G2
      have hm200 := great_le g2
      clear g2
      obtain ⟨xl, xe, hx⟩ : ∃ xl xe, Hid (diffE a b = (xl, xe)) := ⟨_, _, rfl⟩
      obtain ⟨sl, se, hs⟩ : ∃ sl se, Hid (stayE a b = (sl, se)) := ⟨_, _, rfl⟩
      obtain ⟨n, hn⟩ : ∃ n, Hid (a.length = n) := ⟨_, rfl⟩
      obtain ⟨m, hm⟩ : ∃ m, Hid (b.length = m) := ⟨_, rfl⟩
      have hn200 : n ≤ 200 := by have := hn.out; omega
      have hm200' : m ≤ 200 := by have := hm.out; omega
      have C1 := Lib.hid (copy_any a A ca w HL.out.1 (by rw [hn.out]; omega))
      have C2 := fun W (hW : Below w.heap.size w W) => Lib.hid (copy_any b B cb W (slw HL.out.2.2.1 hW) (by rw [hm.out]; omega))
      rw [hn.out] at G1 C1 ⊢
      rw [hm.out] at G2 ⊢
      simp only [hm.out] at C2
      clear hl200 hm200 h63 m63
      go_enter Try.func6, Try.ntmps6
      go_wp2_with fail
      refine (G1.out).mono ?_; rintro e w' ⟨rfl, rfl⟩
      go_wp2_with fail
      refine (G2.out).mono ?_; rintro e w' ⟨rfl, rfl⟩
      go_wp2_with fail
      refine (C1.out).mono ?_; rintro e w2 hr2
      obtain ⟨Ax, cx, rfl, hs2, hc2, hb2⟩ := own_sl Fr.cells_len hr2
      rw [hn.out] at hc2 ⊢
      have H2 := Lib.hid (And.intro hs2 hb2)
      clear hs2 hb2 hr2
      go_wp2_with fail
      refine ((C2 _ H2.out.2).out).mono ?_; rintro e w3 hr3
      obtain ⟨Ay, cy, rfl, hs3, hc3, hb3⟩ := own_sl Fr.cells_len hr3
      rw [hm.out] at hc3 ⊢
      have H3 := Lib.hid (And.intro (slw H2.out.1 hb3) (And.intro hs3 (ext_under H2.out.2 (Nat.le_refl _) hb3)))
      clear hs3 hb3 hr3 C1 C2 G1 G2
      have D1 := Lib.hid (rdiff_any a b A B n ca m cb w3 (slw HL.out.1 H3.out.2.2) HL.out.2.1 hn.out.symm (slw HL.out.2.2.1 H3.out.2.2) HL.out.2.2.2 hm.out.symm (by unfold maxLen; omega) (by unfold maxLen; omega))
      rw [hx.out] at D1
      go_wp2_with fail
      refine (D1.out).mono ?_; rintro e w4 hr4
      obtain ⟨Aw, cw, rfl, ho4, hf4, hb4, hx63⟩ := df_sl hr4
      obtain ⟨q, hq⟩ : ∃ q, Hid (xl.length = q) := ⟨_, rfl⟩
      rw [hq.out] at hx63 ho4 ⊢
      have H4 := Lib.hid (And.intro ho4 (And.intro hb4 (ext_under H3.out.2.2 (Nat.le_refl _) hb4)))
      clear ho4 hf4 hb4 hr4 D1
      have D2 := Lib.hid (rstay_any a b A B n ca m cb w4 (slw HL.out.1 H4.out.2.2) HL.out.2.1 hn.out.symm (slw HL.out.2.2.1 H4.out.2.2) HL.out.2.2.2 hm.out.symm (by unfold maxLen; omega) (by unfold maxLen; omega))
      rw [hs.out] at D2
      go_wp2_with fail
      refine (D2.out).mono ?_; rintro e W1 hr5
      obtain ⟨As, cs, rfl, ho5, hf5, hb5, hs63⟩ := st_sl hr5
      obtain ⟨p, hp⟩ : ∃ p, Hid (sl.length = p) := ⟨_, rfl⟩
      rw [hp.out] at hs63 ho5 ⊢
      have HW : Hid (Below w.heap.size w W1) := ext_under H4.out.2.2 (Nat.le_refl _) hb5
      have HT : Hid (Tl W1 Ax Ay Aw As a b xl sl) := ⟨slw (slw H3.out.1 H4.out.2.1) hb5, slw (slw H3.out.2.1 H4.out.2.1) hb5, slw (H4.out.1.sl Ed.cells_len) hb5, ho5.sl encP_len⟩
      clear ho5 hf5 hb5 hr5 D2 H2 H3 H4
      have SE := fun W (hW : Below W1.heap.size W1 W) (A5 : Option Addr) (c5 : Nat) (h5 : EdSl W W.heap.size A5 xl) => Lib.hid (by have h := EdB.rsame_any xl xl A5 Aw c5 cw W h5 (slw HT.out.want hW) (by rw [hq.out]; exact hx63) (by rw [hq.out]; exact hx63); rw [eqE_self, hq.out] at h; exact h)
      have SX := fun W (hW : Below W1.heap.size W1 W) => Lib.hid (by have h := FragB.rsame_any a a Ax A cx ca W (slw HT.out.x hW) (slw HL.out.1 (HW.out.trans (hW.mono HW.out.size))) (by rw [hn.out]; unfold maxLen; omega) (by rw [hn.out]; unfold maxLen; omega); rw [eqL_self, hn.out] at h; exact h)
      have SY := fun W (hW : Below W1.heap.size W1 W) => Lib.hid (by have h := FragB.rsame_any b b Ay B cy cb W (slw HT.out.y hW) (slw HL.out.2.2.1 (HW.out.trans (hW.mono HW.out.size))) (by rw [hm.out]; unfold maxLen; omega) (by rw [hm.out]; unfold maxLen; omega); rw [eqL_self, hm.out] at h; exact h)
      have t1 : (xe != xe) = false := by simp
      have t2 : (se != se) = false := by simp
      have t3 : ((p : Int) != (p : Int)) = false := by simp
      unfold maxLen at hx63 hs63
      go_wp2
      go_loopg [11] 2 (fun gk v11 wr => ∃ t : Nat, 2 ≤ t + gk ∧ t ≤ 2 ∧ v11 = .int .i64 (t : Int) ∧ Hid (Below W1.heap.size W1 wr))
      case atStart => exact ⟨0, by omega, by omega, rfl, Below.refl _ _⟩
      case round =>
        obtain ⟨t, hgt, ht, rfl, hB2⟩ := hrel
        by_cases htl : t < 2
        · have DP := fun W (hW : Below W1.heap.size W1 W) => Lib.hid (by have h := diff_any a b Ax Ay n cx m cy W (slw HT.out.x hW) HL.out.2.1 hn.out.symm (slw HT.out.y hW) HL.out.2.2.2 hm.out.symm; rw [hx.out] at h; exact h)
          have SP := fun W (hW : Below W1.heap.size W1 W) => Lib.hid (by have h := stay_any a b Ax Ay n cx m cy W (slw HT.out.x hW) HL.out.2.1 hn.out.symm (slw HT.out.y hW) HL.out.2.2.2 hm.out.symm; rw [hs.out] at h; exact h)
          have b7 : (t : Int) < 2 := by omega
          go_wp2_with fail
          refine ((DP _ hB2.out).out).mono ?_; rintro e W5 hr5
          obtain ⟨Ag, cg, rfl, ho5, hf5, hb5, _⟩ := df_sl hr5
          rw [hq.out] at ho5 hf5 ⊢
          have B5 : Hid (Below W1.heap.size W1 W5) := ext_under hB2.out (Nat.le_refl _) hb5
          have O5 := Lib.hid (And.intro ho5 hf5)
          have hwr := hB2.out.size
          have hw5 := B5.out.size
          clear ho5 hf5 hb5 hr5
          go_wp2_with fail
          refine ((SP _ B5.out).out).mono ?_; rintro e W6 hr6
          obtain ⟨Al, cl, rfl, ho6, hf6, hb6, _⟩ := st_sl hr6
          rw [hp.out] at ho6 hf6 ⊢
          have O6 : Hid (Tu W1 W6 Ag Al q cg p cl xl (zs sl)) := ⟨O5.out.1.ext hb6, own_zs ho6, fun b hb => Nat.le_trans hwr (O5.out.2 b hb), fun b hb => Nat.le_trans hw5 (hf6 b hb), ext_under B5.out (Nat.le_refl _) hb6⟩
          clear ho6 hf6 hb6 hr6 O5 B5 DP SP hwr hw5
          go_wp2_with fail
          refine ((SE W6 O6.out.be Ag cg (O6.out.got.sl Ed.cells_len)).out).mono ?_; rintro e W7 ⟨rfl, hb7⟩
          have O7 := Lib.hid (O6.out.ext hb7)
          clear hb7 O6
          go_wp2_with fail
          refine ((SX W7 O7.out.be).out).mono ?_; rintro e W8 ⟨rfl, hb8⟩
          have O8 := Lib.hid (O7.out.ext hb8)
          clear hb8 O7
          go_wp2_with fail
          refine ((SY W8 O8.out.be).out).mono ?_; rintro e W9 ⟨rfl, hb9⟩
          have O9 := Lib.hid (O8.out.ext hb9)
          clear hb9 O8
          generalize gk = gq at *
          generalize wr = Wq at *
          go_wp2
          go_loopg [16] p (fun gk v16 wr => ∃ (i : Nat) (ys : List (Int × Int)), p ≤ i + gk ∧ i ≤ p ∧ v16 = .int .i64 (i : Int) ∧ Hid (Tu W1 wr Ag Al q cg p cl xl ys ∧ ∀ k, i ≤ k → ys[k]? = (zs sl)[k]?))
          case atStart => exact ⟨0, _, by omega, by omega, rfl, O9.out, fun k _ => rfl⟩
          case round =>
            clear O9
            obtain ⟨i, ys, hgi, hi, rfl, hO⟩ := hrel
            by_cases hil : i < p
            · have hsi : i < sl.length := by rw [hp.out]; exact hil
              obtain ⟨z, hz⟩ : ∃ z, sl[i]? = some z := ⟨_, List.getElem?_eq_getElem hsi⟩
              have hyi : ys[i]? = some ((z.1 : Int), (z.2 : Int)) := by rw [hO.out.2 i (Nat.le_refl _), zs, List.getElem?_map, hz]; rfl
              obtain ⟨pg, po, rfl, hpg, y0, y1⟩ := ZSl.at_ (hO.out.1.st.sl encZ_len) hyi
              obtain ⟨ug, uo, rfl, hug, x0, x1⟩ := PSl.at_ (slw HT.out.stay hO.out.1.be) hz
              obtain ⟨off', cap', cur, hv, hgg, _⟩ := hO.out.1.st.row (g := pg) rfl
              have fz0 : wr.frozen? ⟨pg, po + i * 2, none⟩ = false := frozen_of_row wr pg _ cur _ hgg
              have fz1 : wr.frozen? ⟨pg, po + i * 2 + 1, none⟩ = false := frozen_of_row wr pg _ cur _ hgg
              have HN : ∀ k, Hid (Tu W1 (((wr.drewN k).setCell ⟨pg, po + i * 2, none⟩ (.int .i64 (-1))).setCell ⟨pg, po + i * 2 + 1, none⟩ (.int .i64 (-1))) Ag (some ⟨pg, po, none⟩) q cg p cl xl (ys.set i (-1, -1)) ∧ ∀ k, i + 1 ≤ k → (ys.set i (-1, -1))[k]? = (zs sl)[k]?) := fun k0 =>
                ⟨(hO.out.1.ext (bdrewN (Below.refl _ _) k0)).spoil hyi, fun k hk => by rw [List.getElem?_set, if_neg (by omega)]; exact hO.out.2 k (by omega)⟩
              have e1 : (0 : Int) ≤ (i : Int) := Int.natCast_nonneg _
              have e2 : (i : Int) < (p : Int) := by omega
              clear hv hgg hyi hz hO hsi
              go_wp2_with fail
              go_quiet (fail)
              go_wp2
              go_roundg (gk - 1)
              case measure => omega
              case rel => exact ⟨i + 1, _, by omega, by omega, by go_num, HN nq⟩
            · have O10 := Lib.hid hO.out.1
              generalize gk = gq2 at *
              generalize wr = Wq2 at *
              clear hO
              go_wp2
              go_loopg [17] q (fun gk v17 wr => ∃ (i : Nat) (xs : List Ed), q ≤ i + gk ∧ i ≤ q ∧ v17 = .int .i64 (i : Int) ∧ Hid (Tu W1 wr Ag Al q cg p cl xs ys))
              case atStart => exact ⟨0, _, by omega, by omega, rfl, O10⟩
              case round =>
                clear O10
                obtain ⟨i2, xs, hgi2, hi2, rfl, hO⟩ := hrel
                by_cases hil2 : i2 < q
                · have hixs : i2 < xs.length := by have h := hO.out.got.len; omega
                  obtain ⟨x, hxi⟩ : ∃ x, xs[i2]? = some x := ⟨_, List.getElem?_eq_getElem hixs⟩
                  obtain ⟨vb, vo, rfl, hvb, y0, -, -, -, -, -, -, -, -, -, -, -⟩ := EdSl.at_ (hO.out.got.sl Ed.cells_len) hxi
                  obtain ⟨off', cap', cur, hv, hgg, _⟩ := hO.out.got.row (g := vb) rfl
                  have fz : wr.frozen? ⟨vb, vo + i2 * 12, none⟩ = false := frozen_of_row wr vb _ cur _ hgg
                  have HN := Lib.hid (hO.out.kind hxi)
                  have e1 : (0 : Int) ≤ (i2 : Int) := Int.natCast_nonneg _
                  have e2 : (i2 : Int) < (q : Int) := by omega
                  clear hv hgg hxi hO
                  go_wp2
                  go_roundg (gk - 1)
                  case measure => omega
                  case rel => exact ⟨i2 + 1, _, by omega, by omega, by go_num, HN⟩
                · have HN := Lib.hid hO.out.be
                  clear hO
                  go_wp2
                  go_roundg (gq - 1)
                  case measure => omega
                  case rel => exact ⟨t + 1, by omega, by omega, by go_num, HN⟩
        · obtain rfl : t = 2 := by omega
          have hBw2 : Hid (Below w.heap.size w wr) := HW.out.trans (hB2.out.mono HW.out.size)
          clear SE SX SY
          go_wp2
          go_ret
          exact ⟨rfl, hBw2.out⟩
set_option maxRecDepth 100000 in
theorem lifted (os : Os) (started : os.Started) (H : Type) (enc : TypeId × Value → H) :
    ReturnsInHanded {} Try.checked os 6 .any (Rows.diffTellsSpec.pre6 enc Try.prog Try.f6 Rows.diffTellsRow.domain false) (Rows.diffTellsSpec.post enc Try.prog Try.f6 false true false false) := by
  refine returnsInHanded_of_change_sized (C := Try.checked) own started (by kernel_rfl) Try.func6
    (ChangeSpec.witness6 (enc := enc) (C := Try.checked) false ⟨#[], #[.slice none 0 0, .slice none 0 0], []⟩ 8 (by kernel_rfl) (by kernel_rfl) (by kernel_rfl) (by kernel_rfl)) ?_
  intro W base args ds gs before hval0 hW hcnd hsz0 _
  have hval : ∀ (j : Nat) t v, Try.f6.params[j]? = some t → args[j]? = some v → Value.okWide Try.prog W .any base t v := hval0
  have hW' := hW
  obtain ⟨p, q, hA0, hV, rfl, hfz, hnd⟩ := hW
  have hA : DataW.TrodAll enc Try.prog W 0 (fun _ => true) true Try.f6.params.toList args.toList ds p := hA0
  have hsz : (DataW.weightsEach Try.prog (Try.f6.params.toList ++ []) (ds ++ gs)).all (· ≤ reachBytes) = true := hsz0
  rw [Try.params6] at hA hval hsz
  have hAll := hA
  obtain ⟨v0, vs0, d0, ds0, p0, q0, hargs, rfl, rfl, h0, r0⟩ := trodAll_cons hA
  obtain ⟨v1, vs1, d1, ds1, p1, q1, rfl, rfl, rfl, h1, r1⟩ := trodAll_cons r0
  obtain ⟨rfl, rfl, rfl⟩ := trodAll_nil r1
  obtain rfl : args = #[v0, v1] := by cases args; simp_all
  obtain ⟨rfl, rfl⟩ := trodVars_none hV
  obtain ⟨a_A, a, a_cap, rfl, a_sl, a_ok, a_le, a_max, a_reach, a_nil⟩ := open_sl Try.underlying59 (c := 8) (by kernel_rfl) (by decide) opens_fr (hval 0 59 v0 rfl rfl) h0 (light_of hsz (j := 0) rfl rfl)
  obtain ⟨b_A, b, b_cap, rfl, b_sl, b_ok, b_le, b_max, b_reach, b_nil⟩ := open_sl Try.underlying59 (c := 8) (by kernel_rfl) (by decide) opens_fr (hval 1 59 v1 rfl rfl) h1 (light_of hsz (j := 1) rfl rfl)
  refine (walk a b a_A a_cap b_A b_cap W a_sl (Nat.le_trans a_le a_max) a_ok b_sl (Nat.le_trans b_le b_max) b_ok).mono fun e W' ⟨he, bel⟩ => ?_
  subst he
  exact ⟨_, rfl, _, _, _, [], _, [], hW', trodAll_mk1 (shut_bool Try.underlying4 _), keep_args laidOut bel (by kernel_rfl) hAll, rfl, bel.frame _, fun h => by cases h⟩

theorem over : Rows.diffTellsRow.holds Try.pinned (OpenSpec.ofChange Rows.diffTellsSpec) :=
  OpenClaim.holds_of_wide 6 Try.f6 rfl rfl rfl rfl rfl rfl rfl ⟨rfl, rfl, rfl, rfl, rfl⟩ rfl rfl rfl rfl rfl (by kernel_rfl) Try.func6 (by kernel_rfl)
    (of_decide_eq_true (by kernel_rfl)) (by unfold Func.isWrapper; first | (rw [if_pos (by decide +kernel)]; kernel_rfl) | (rw [if_neg (by decide +kernel)]; exact ⟨rfl, rfl⟩))
    (fun os started H enc _ => lifted os started H enc)

theorem proved : Rows.DiffTellsSaid := over
#print axioms proved
end Go.Proofs.Ytiljpbncfofnhaa.lawTells
