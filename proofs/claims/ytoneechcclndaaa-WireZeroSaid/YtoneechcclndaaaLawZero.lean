/- WireZero: a value that has a field which its letter hasn't is refused; so is a letter that there isn't: whatever the input, the law returns true. -/
import Derived.Test.YtoneechcclndaaaLawLong
import Derived.Laws.Bits64b
import Derived.Outline
import Derived.BigQuiet
import Derived.Deep.QuietTactic
import Derived.Deep.RegionWith
import Derived.Deep.RegionHeld3
import Derived.Deep.DrawnRows
import Derived.Deep.LoopGhost
import Derived.Deep.DeepCutAuto
import Derived.Laws.EntriesVeiled
namespace Go.Proofs.Ytoneechcclndaaa.lawZero
open Go.RowKit Go.ChangeShapes Go.WideShapes Go.ChangeAt
set_option linter.unusedVariables false
set_option linter.unusedSimpArgs false
attribute [local go_sem ↓] Go.wp_at_zero Go.wp_at_succ
open Wire Word Bytes Go.Shelf lawTorn lawLong

def rsOf (a : Nat) (i : Int) (n g : Nat) : List Wr := [⟨⟨a, 0, false, [], []⟩, none, 0, 0, none, 0, 0⟩, ⟨⟨0, i, false, [], []⟩, none, 0, 0, none, 0, 0⟩, ⟨⟨0, 0, true, [], []⟩, none, 0, 0, none, 0, 0⟩, ⟨⟨0, 0, false, [1], []⟩, some ⟨g, 0, none⟩, 1, 1, none, 0, 0⟩, ⟨⟨0, 0, false, [], [n]⟩, none, 0, 0, some ⟨g + 1, 0, none⟩, 1, 1⟩]
def lets : List UInt8 := [110, 105, 102, 98, 108]
def ltr (k : Nat) : UInt8 := lets[k]?.getD 0
theorem put_cell {a : Nat} {iv : Int} (n g : Nat) (ha : a ≠ 0) (hi : iv ≠ 0) {i k : Nat} (h5 : i < 5) (hk : k < 5) {r : Wr} (hr : (rsOf a iv n g)[i]? = some r) : (putP [ltr k] ([r].map Wr.v)).2 = if i = k then 0 else 2 := by
  obtain rfl | rfl | rfl | rfl | rfl : i = 0 ∨ i = 1 ∨ i = 2 ∨ i = 3 ∨ i = 4 := by omega
  all_goals
    simp only [rsOf, List.getElem?_cons_zero, List.getElem?_cons_succ, Option.some.injEq] at hr
    subst hr
    obtain rfl | rfl | rfl | rfl | rfl : k = 0 ∨ k = 1 ∨ k = 2 ∨ k = 3 ∨ k = 4 := by omega
    all_goals simp [putP, ltr, lets, schemaP, kdsOf, kdOf, fitsS, fitsK, longV, ha, hi]
theorem row_new {w : World} {a : Nat} {iv : Int} {n : Nat} (ha : a < p64) (h1 : -9223372036854775808 ≤ iv) (h2 : iv ≤ 9223372036854775807) (hn : n < p64) :
    VRd (((w.alloc (.cells #[.int .u8 1] 5)).alloc (.cells #[.int .u64 (n : Int)] 34)).alloc (.cells #[.int .u64 (a : Int), .int .i64 0, .bool false, .slice none 0 0, .slice none 0 0, .int .u64 0, .int .i64 iv, .bool false, .slice none 0 0, .slice none 0 0, .int .u64 0, .int .i64 0, .bool true, .slice none 0 0, .slice none 0 0, .int .u64 0, .int .i64 0, .bool false, .slice (some ⟨w.heap.size, 0, none⟩) 1 1, .slice none 0 0, .int .u64 0, .int .i64 0, .bool false, .slice none 0 0, .slice (some ⟨w.heap.size + 1, 0, none⟩) 1 1] 38))
      (some ⟨w.heap.size + 1 + 1, 0, none⟩) 5 (rsOf a iv n w.heap.size) := by
  have hb := lit_one (enc := encB) w (1 : UInt8) 5 rfl
  have hn' := lit_one (enc := encN) (w.alloc (.cells #[.int .u8 1] 5)) n 34 rfl
  have hl := lit_list ((w.alloc (.cells #[.int .u8 1] 5)).alloc (.cells #[.int .u64 (n : Int)] 34)) (rsOf a iv n w.heap.size) 38 Wr.cells_len
  have hs : ((w.alloc (.cells #[.int .u8 1] 5)).alloc (.cells #[.int .u64 (n : Int)] 34)).heap.size = w.heap.size + 1 + 1 := by simp
  have hs1 : (w.alloc (.cells #[.int .u8 1] 5)).heap.size = w.heap.size + 1 := by simp
  rw [hs] at hl
  rw [hs1] at hn'
  have nb : ∀ W : World, BySl W W.heap.size none ([] : List UInt8) := fun W h => absurd rfl h
  have nn : ∀ W : World, Sl W W.heap.size 1 encN none ([] : List Nat) := fun W h => absurd rfl h
  refine ⟨hl, rfl, ?_, by simp [rsOf]⟩
  intro r hr
  simp only [rsOf, List.mem_cons, List.not_mem_nil, or_false] at hr
  rcases hr with rfl | rfl | rfl | rfl | rfl
  · exact ⟨nb _, rfl, nn _, rfl, ha, by simp, by simp, by simp, by simp, by simp⟩
  · exact ⟨nb _, rfl, nn _, rfl, by simp [p64], h1, h2, by simp, by simp, by simp⟩
  · exact ⟨nb _, rfl, nn _, rfl, by simp [p64], by simp, by simp, by simp, by simp, by simp⟩
  · exact ⟨((hb.ext (below_1 _ _)).ext (below_1 _ _)), rfl, nn _, rfl, by simp [p64], by simp, by simp, by simp, by simp, by simp⟩
  · exact ⟨nb _, rfl, hn'.ext (below_1 _ _), rfl, by simp [p64], by simp, by simp, by simpa using hn, by simp, by simp⟩
theorem or1 (n : Nat) (hn : n < p64) : ∃ a : Nat, bits .or .u64 (n : Int) 1 = (a : Int) ∧ a < p64 ∧ a % 2 = 1 := by
  refine ⟨n ||| 1, by rw [show (1 : Int) = ((1 : Nat) : Int) from rfl, bits_or_u64_nat n 1 (by unfold p64 at hn; omega) (by decide)], ?_, by simp [Nat.or_mod_two_eq_one]⟩
  exact Nat.or_lt_two_pow (n := 64) (by unfold p64 at hn; omega) (by decide)
theorem rem64 (z : Int) (m : Nat) (h0 : 0 < m) (hm : m ≤ 1000) : ∃ k : Nat, wrap64 ((IntKind.u64.wrap z).tmod (m : Int)) = (k : Int) ∧ k < m := by
  have h1 : 0 ≤ IntKind.u64.wrap z := by rw [IntKind.wrap_u64]; omega
  have h2 : (IntKind.u64.wrap z).tmod (m : Int) = (IntKind.u64.wrap z) % (m : Int) := Int.tmod_eq_emod_of_nonneg h1
  have h3 : 0 ≤ (IntKind.u64.wrap z) % (m : Int) := Int.emod_nonneg _ (by omega)
  have h4 : (IntKind.u64.wrap z) % (m : Int) < m := Int.emod_lt_of_pos _ (by omega)
  refine ⟨((IntKind.u64.wrap z) % (m : Int)).toNat, ?_, by omega⟩
  rw [h2]
  unfold wrap64
  omega
theorem ext_ltr {K : Nat} (h : K < 5) : (⟨#[110, 105, 102, 98, 108]⟩ : ByteArray).extract K (K + 1) = ⟨#[ltr K]⟩ := by
  obtain rfl | rfl | rfl | rfl | rfl : K = 0 ∨ K = 1 ∨ K = 2 ∨ K = 3 ∨ K = 4 := by omega
  all_goals rfl
def zl (d : UInt8) (P i : Nat) : List UInt8 := (List.range i).map fun j => if j = P then d else 102
theorem zl_next (d : UInt8) (P i : Nat) : zl d P (i + 1) = zl d P i ++ [if i = P then d else 102] := by simp [zl, List.range_succ]
theorem zl_len (d : UInt8) (P i : Nat) : (zl d P i).length = i := by simp [zl]
theorem kds_none (x : UInt8) (hx : kdOf x.toNat = none) : ∀ l : List UInt8, x ∈ l → kdsOf l = none
  | [], h => by cases h
  | y :: l, h => by
    unfold kdsOf
    rcases List.mem_cons.1 h with rfl | h
    · rw [hx]
    · cases kdOf y.toNat with
      | none => rfl
      | some k => simp only [kds_none x hx l h, Option.map_none]
theorem zl_none {d : UInt8} {P : Nat} (hP : P < 20) (hd : kdOf d.toNat = none) : schemaP (zl d P 20) = none := by
  unfold schemaP
  rw [if_pos (by rw [zl_len]; decide)]
  exact kds_none d hd _ (List.mem_map.2 ⟨P, List.mem_range.2 hP, by simp⟩)
theorem rd0 {w6 : World} {base g : Nat} (h : w6.ownsRow base 38 5 (.slice (some ⟨g, 0, none⟩) 20 20) 20 (madeCells (Value.agg #[.int .u64 0, .int .i64 0, .bool false, .slice none 0 0, .slice none 0 0]).cells (20 * 5)).toList) : VRd w6 (some ⟨g, 0, none⟩) 20 (List.replicate 20 wr0) := by
  have e := FForm.made_flat Wr.cells_len (by decide) wr0 (Value.agg #[.int .u64 0, .int .i64 0, .bool false, .slice none 0 0, .slice none 0 0]) (by rfl) 20
  have h2 : Own w6 base 38 5 Wr.cells (.slice (some ⟨g, 0, none⟩) 20 20) (List.replicate 20 wr0) := by
    unfold Own
    rw [List.length_replicate, ← e]
    exact h
  refine ⟨h2.sls Wr.cells_len, by simp [Hid], fun r hr => ?_, by simp⟩
  rw [List.eq_of_mem_replicate hr]
  exact ⟨fun h => absurd rfl h, rfl, fun h => absurd rfl h, rfl, wv0_wf⟩
set_option maxHeartbeats 4000000 in
set_option maxRecDepth 100000 in
theorem walk (wh : Int) (n : Nat) (d : UInt8) (pl : Int) (w : World) (hn : n < p64) : Calls Try.prog 4 #[.int .i64 wh, .int .u64 (n : Int), .int .u8 (d.toNat : Int), .int .i64 pl] w fun e w' => e = .returned (.bool true) ∧ Below w.heap.size w w' := by
  obtain ⟨a, hor, ha, ha2⟩ := or1 n hn
  obtain ⟨K, hK, hK5⟩ := rem64 wh 5 (by decide) (by decide)
  obtain ⟨P, hP, hP20⟩ := rem64 pl 20 (by decide) (by decide)
  obtain ⟨iv, hiv⟩ : ∃ iv : Int, wrap64 (a : Int) = iv := ⟨_, rfl⟩
  have hivn : Hid (iv ≠ 0 ∧ -9223372036854775808 ≤ iv ∧ iv ≤ 9223372036854775807) := by rw [Hid, ← hiv]; unfold wrap64; omega
  have HA : Hid (a ≠ 0 ∧ a < p64) := ⟨by omega, ha⟩
  have HNN : Hid (n < p64) := hn
  clear ha ha2 hn
  simp only [Int.cast_ofNat_Int] at hK hP
  go_enter Try.func4, Try.ntmps4
  go_wp2_with fail
  refine (awake_any w).mono ?_; rintro e w1 ⟨rfl, hb1⟩
  have HB1 := Lib.hid hb1
  clear hb1
  go_upto_region 6 with fail
  have HV := Lib.hid (row_new (w := w1) HA.out.2 hivn.out.2.1 hivn.out.2.2 HNN.out)
  have HB2 : Hid (Below w.heap.size w (((w1.alloc (.cells #[.int .u8 1] 5)).alloc (.cells #[.int .u64 (n : Int)] 34)).alloc (.cells #[.int .u64 (a : Int), .int .i64 0, .bool false, .slice none 0 0, .slice none 0 0, .int .u64 0, .int .i64 iv, .bool false, .slice none 0 0, .slice none 0 0, .int .u64 0, .int .i64 0, .bool true, .slice none 0 0, .slice none 0 0, .int .u64 0, .int .i64 0, .bool false, .slice (some ⟨w1.heap.size, 0, none⟩) 1 1, .slice none 0 0, .int .u64 0, .int .i64 0, .bool false, .slice none 0 0, .slice (some ⟨w1.heap.size + 1, 0, none⟩) 1 1] 38))) :=
    ext_under (ext_under (ext_under HB1.out (Nat.le_refl _) (below_1 _ _)) (Nat.le_refl _) (below_1 _ _)) (Nat.le_refl _) (below_1 _ _)
  generalize hW2 : World.alloc _ _ = W2 at *
  clear hW2
  generalize w1.heap.size = g at *
  go_wp2
  try simp only [hK, hiv, hor]
  clear hK hor
  clear hiv
  go_loopg [12] 5 (fun gk v12 wr => ∃ j : Nat, v12 = .int .i64 (j : Int) ∧ 5 ≤ j + gk ∧ j ≤ 5 ∧ Hid (Below W2.heap.size W2 wr))
  case atStart => exact ⟨0, rfl, by omega, by omega, Below.refl _ _⟩
  case round =>
    obtain ⟨j, rfl, hgk, hj5, hI⟩ := hrel
    by_cases hlt : j < 5
    · have e1 : decide ((j : Int) < 5) = true := decide_eq_true (by omega)
      have e2 : decide (j < 5) = true := decide_eq_true hlt
      go_upto_region 9 with fail
      have HVr := Lib.hid (HV.out.ext hI.out)
      obtain ⟨r, hr⟩ : ∃ r, (rsOf a iv n g)[j]? = some r := ⟨_, List.getElem?_eq_getElem (by simpa [rsOf] using hlt)⟩
      obtain ⟨vb, vo, hA', hvb, y0, y1, y2, y3, y4⟩ := Wr.at_ HVr.out.sl hr
      obtain ⟨rfl, rfl⟩ : g + 1 + 1 = vb ∧ 0 = vo := by injection hA' with h; injection h with h1 h2; exact ⟨h1, h2⟩
      simp only [Nat.zero_add, Nat.add_zero] at y0 y1 y2 y3 y4
      have HR := Lib.hid (And.intro hr (HVr.out.rd r (List.mem_of_getElem? hr)))
      have hput := put_cell n g HA.out.1 hivn.out.1 hlt hK5 hr
      have b1 : (0 : Int) ≤ (j : Int) := Int.natCast_nonneg _
      have b2 : (j : Int) < 5 := by omega
      have k1 : (0 : Int) ≤ (K : Int) := Int.natCast_nonneg _
      have k2 : (K : Int) ≤ (K : Int) + 1 := by omega
      have k3 : (K : Int) + 1 ≤ 5 := by omega
      have kw : IntKind.i64.wrap ((K : Int) + 1) = (K : Int) + 1 := by rw [IntKind.wrap_i64]; omega
      have kn : ((K : Int) + 1).toNat = K + 1 := by omega
      have kx := ext_ltr hK5
      have hcall : Hid (∀ W, Below wr.heap.size wr W → Calls Try.prog 18 #[.string ⟨#[ltr K]⟩, .slice (some ⟨W.heap.size, 0, none⟩) 1 1] (W.alloc (.cells #[.int .u64 (r.v.n : Int), .int .i64 r.v.i, .bool r.v.f, .slice r.bA r.bn r.bc, .slice r.lA r.ln r.lc] 38)) (fun e w' => Below (W.alloc (.cells #[.int .u64 (r.v.n : Int), .int .i64 r.v.i, .bool r.v.f, .slice r.bA r.bn r.bc, .slice r.lA r.ln r.lc] 38)).heap.size (W.alloc (.cells #[.int .u64 (r.v.n : Int), .int .i64 r.v.i, .bool r.v.f, .slice r.bA r.bn r.bc, .slice r.lA r.ln r.lc] 38)) w' ∧ ∃ A n c, e = .returned (.tuple #[.slice A n c, .int .i64 (if j = K then 0 else 2)]))) := by
        intro W hW
        refine (put_any' ⟨#[ltr K]⟩ [r] _ 1 1 _ (by simp) (vrd_lit HR.out.2 hW)).mono ?_
        rintro e w' ⟨hb, A, n, c, he, _, _⟩
        rw [show (putP (⟨#[ltr K]⟩ : ByteArray).data.toList ([r].map Wr.v)).2 = _ from hput] at he
        exact ⟨hb, A, n, c, he⟩
      clear hA' hr HVr hput
      have hS0 : Below wr.heap.size wr wr.drew := (Below.refl _ _).drew
      refine wp_region_held_drew (S := fun w' => Below wr.heap.size wr w') (by kernel_rfl) hS0 (fun hHeld => ?_)
      try simp only [Act.put, List.setIfInBounds_toArray, List.set_cons_zero, List.set_cons_succ]
      (refine wpAnyH_take (i := 0) (oi := { dst := some 48, op := _, type := _, pos := _, after := _, guard := _ }) (v := ?_) rfl (by kernel_rfl) (by kernel_rfl) (by kernel_rfl) (fun _ _ _ h => h) (Or.inl ⟨by kernel_rfl, (by intro W' hS'; obtain ⟨hq1, hq2⟩ := bcellL hS'; go_simp; try with_reducible rfl)⟩) (by assumption) ?_; (try simp only [Act.put, List.setIfInBounds_toArray, List.set_cons_zero, List.set_cons_succ]))
      (refine wpAnyH_take (i := 1) (oi := { dst := some 49, op := _, type := _, pos := _, after := _, guard := _ }) (v := ?_) rfl (by kernel_rfl) (by kernel_rfl) (by kernel_rfl) (fun _ _ _ h => h) (Or.inl ⟨by kernel_rfl, (by intro W' hS'; obtain ⟨hq1, hq2⟩ := bcellL hS'; go_simp; try with_reducible rfl)⟩) (by assumption) ?_; (try simp only [Act.put, List.setIfInBounds_toArray, List.set_cons_zero, List.set_cons_succ]))
      (refine wpAnyH_take (i := 2) (oi := { dst := some 50, op := _, type := _, pos := _, after := _, guard := _ }) (v := ?_) rfl (by kernel_rfl) (by kernel_rfl) (by kernel_rfl) (fun _ _ _ h => h) (Or.inl ⟨by kernel_rfl, (by intro W' hS'; obtain ⟨hq1, hq2⟩ := bcellL hS'; go_simp; try with_reducible rfl)⟩) (by assumption) ?_; (try simp only [Act.put, List.setIfInBounds_toArray, List.set_cons_zero, List.set_cons_succ]))
      (refine wpAnyH_take (i := 3) (oi := { dst := some 51, op := _, type := _, pos := _, after := _, guard := _ }) (v := ?_) rfl (by kernel_rfl) (by kernel_rfl) (by kernel_rfl) (fun _ _ _ h => h) (Or.inl ⟨by kernel_rfl, (by intro W' hS'; obtain ⟨hq1, hq2⟩ := bcellL hS'; go_simp; try with_reducible rfl)⟩) (by assumption) ?_; (try simp only [Act.put, List.setIfInBounds_toArray, List.set_cons_zero, List.set_cons_succ]))
      (refine wpAnyH_take (i := 4) (oi := { dst := some 52, op := _, type := _, pos := _, after := _, guard := _ }) (v := ?_) rfl (by kernel_rfl) (by kernel_rfl) (by kernel_rfl) (fun _ _ _ h => h) (Or.inl ⟨by kernel_rfl, (by intro W' hS'; obtain ⟨hq1, hq2⟩ := bcellL hS'; go_simp; try with_reducible rfl)⟩) (by assumption) ?_; (try simp only [Act.put, List.setIfInBounds_toArray, List.set_cons_zero, List.set_cons_succ]))
      (refine wpAnyH_take (i := 5) (oi := { dst := some 53, op := _, type := _, pos := _, after := _, guard := _ }) (v := ?_) rfl (by kernel_rfl) (by kernel_rfl) (by kernel_rfl) (fun _ _ _ h => h) (Or.inl ⟨by kernel_rfl, (by intro W' hS'; obtain ⟨hq1, hq2⟩ := bcellL hS'; go_simp; try with_reducible rfl)⟩) (by assumption) ?_; (try simp only [Act.put, List.setIfInBounds_toArray, List.set_cons_zero, List.set_cons_succ]))
      (refine wpAnyH_take (i := 6) (oi := { dst := some 54, op := _, type := _, pos := _, after := _, guard := _ }) (v := ?_) rfl (by kernel_rfl) (by kernel_rfl) (by kernel_rfl) (fun _ _ _ h => h) (Or.inl ⟨by kernel_rfl, (by intro W' hS'; obtain ⟨hq1, hq2⟩ := bcellL hS'; go_simp; try with_reducible rfl)⟩) (by assumption) ?_; (try simp only [Act.put, List.setIfInBounds_toArray, List.set_cons_zero, List.set_cons_succ]))
      (refine wpAnyH_take (i := 7) (oi := { dst := some 55, op := _, type := _, pos := _, after := _, guard := _ }) (v := ?_) rfl (by kernel_rfl) (by kernel_rfl) (by kernel_rfl) (fun _ _ _ h => h) (Or.inl ⟨by kernel_rfl, (by intro W' hS'; obtain ⟨hq1, hq2⟩ := bcellL hS'; go_simp; try with_reducible rfl)⟩) (by assumption) ?_; (try simp only [Act.put, List.setIfInBounds_toArray, List.set_cons_zero, List.set_cons_succ]))
      (refine wpAnyH_take (i := 8) (oi := { dst := some 56, op := _, type := _, pos := _, after := _, guard := _ }) (v := ?_) rfl (by kernel_rfl) (by kernel_rfl) (by kernel_rfl) (fun _ _ _ h => h) (Or.inl ⟨by kernel_rfl, (by intro W' hS'; obtain ⟨hq1, hq2⟩ := bcellL hS'; go_simp; try with_reducible rfl)⟩) (by assumption) ?_; (try simp only [Act.put, List.setIfInBounds_toArray, List.set_cons_zero, List.set_cons_succ]))
      refine wpAnyH_ready (rs := [9]) (by kernel_rfl) (by simp) ?_
      refine AllReadyH.cons (o := { dst := some 57, op := _, type := _, pos := _, after := _, guard := _ }) rfl (fun K' hK' => ?_) AllReadyH.nil
      go_simp; refine hK'.out _ _ (Below.alloc hS0 (Below.size hS0) _) (fun hHeld => ?_); clear hK' K'; try simp only [Act.put, List.setIfInBounds_toArray, List.set_cons_zero, List.set_cons_succ]
      have hA1 := hHeld
      refine wpAnyH_ready (rs := [10]) (by kernel_rfl) (by simp) ?_
      refine AllReadyH.cons (o := { dst := some 58, op := _, type := _, pos := _, after := _, guard := _ }) rfl (fun K' hK' => ?_) AllReadyH.nil
      go_simp
      refine (hcall.out _ hS0).mono ?_; rintro e w5 ⟨hb5, A5, n5, c5, rfl⟩
      have hS5 : Below wr.heap.size wr w5 := ext_under hA1 (Nat.le_refl _) hb5
      refine hK'.out _ _ hS5 (fun hHeld2 => ?_)
      clear hK' K'
      try simp only [Act.put, List.setIfInBounds_toArray, List.set_cons_zero, List.set_cons_succ]
      (refine wpAnyH_take (i := 11) (oi := { dst := some 47, op := _, type := _, pos := _, after := _, guard := _ }) (v := ?_) rfl (by kernel_rfl) (by kernel_rfl) (by kernel_rfl) (fun _ _ _ h => h) (Or.inl ⟨by kernel_rfl, (by intro W' hS'; obtain ⟨hq1, hq2⟩ := bcellL hS'; go_simp; try with_reducible rfl)⟩) (by assumption) ?_; (try simp only [Act.put, List.setIfInBounds_toArray, List.set_cons_zero, List.set_cons_succ]))
      (refine wpAnyH_take (i := 12) (oi := { dst := some 59, op := _, type := _, pos := _, after := _, guard := _ }) (v := ?_) rfl (by kernel_rfl) (by kernel_rfl) (by kernel_rfl) (fun _ _ _ h => h) (Or.inl ⟨by kernel_rfl, (by intro W' hS'; obtain ⟨hq1, hq2⟩ := bcellL hS'; go_simp; try with_reducible rfl)⟩) (by assumption) ?_; (try simp only [Act.put, List.setIfInBounds_toArray, List.set_cons_zero, List.set_cons_succ]))
      (refine wpAnyH_take (i := 13) (oi := { dst := some 60, op := _, type := _, pos := _, after := _, guard := _ }) (v := ?_) rfl (by kernel_rfl) (by kernel_rfl) (by kernel_rfl) (fun _ _ _ h => h) (Or.inl ⟨by kernel_rfl, (by intro W' hS'; obtain ⟨hq1, hq2⟩ := bcellL hS'; go_simp; try with_reducible rfl)⟩) (by assumption) ?_; (try simp only [Act.put, List.setIfInBounds_toArray, List.set_cons_zero, List.set_cons_succ]))
      (refine wpAnyH_take (i := 14) (oi := { dst := some 13, op := _, type := _, pos := _, after := _, guard := _ }) (v := ?_) rfl (by kernel_rfl) (by kernel_rfl) (by kernel_rfl) (fun _ _ _ h => h) (Or.inl ⟨by kernel_rfl, (by intro W' hS'; obtain ⟨hq1, hq2⟩ := bcellL hS'; go_simp; try with_reducible rfl)⟩) (by assumption) ?_; (try simp only [Act.put, List.setIfInBounds_toArray, List.set_cons_zero, List.set_cons_succ]))
      (refine wpAnyH_take (i := 15) (oi := { dst := some 14, op := _, type := _, pos := _, after := _, guard := _ }) (v := ?_) rfl (by kernel_rfl) (by kernel_rfl) (by kernel_rfl) (fun _ _ _ h => h) (Or.inl ⟨by kernel_rfl, (by intro W' hS'; obtain ⟨hq1, hq2⟩ := bcellL hS'; go_simp; try with_reducible rfl)⟩) (by assumption) ?_; (try simp only [Act.put, List.setIfInBounds_toArray, List.set_cons_zero, List.set_cons_succ]))
      refine wpAnyH_done (by kernel_rfl) ?_ _
      have hI5 := Lib.hid (ext_under hI.out (Nat.le_refl _) hS5)
      clear hS5 hHeld2 hA1 hb5 hHeld hS0 hcall kx kn kw k1 k2 k3 y0 y1 y2 y3 y4
      by_cases hjK : j = K
      · have q1 : ((j : Int) == (K : Int)) = true := by rw [hjK]; simp
        have q2 : (j == K) = true := by rw [hjK]; simp
        rw [if_pos hjK]
        clear hjK
        go_wp2
        go_roundg (gk - 1)
        case measure => omega
        case rel => exact ⟨j + 1, by go_num, by omega, by omega, hI5.out⟩
      · have q1 : ((j : Int) == (K : Int)) = false := by simp; omega
        have q2 : (j == K) = false := by simp; omega
        rw [if_neg hjK]
        clear hjK
        go_wp2
        go_roundg (gk - 1)
        case measure => omega
        case rel => exact ⟨j + 1, by go_num, by omega, by omega, hI5.out⟩
    · obtain rfl : j = 5 := by omega
      clear hgk hj5 hlt
      go_wp2
      go_loopg [15] 5 (fun gk v15 wq => ∃ i : Nat, v15 = .int .i64 (i : Int) ∧ 5 ≤ i + gk ∧ i ≤ 5 ∧ Hid (Below W2.heap.size W2 wq ∧ ∀ m, m < i → ltr m ≠ d))
      case atStart => exact ⟨0, rfl, by omega, by omega, hI.out, fun m hm => by omega⟩
      case round =>
        obtain ⟨i, rfl, hgk, hi5, hJ⟩ := hrel
        by_cases hlt : i < 5
        · have hq : ltr i = d ∨ ltr i ≠ d := by by_cases h : ltr i = d; exact .inl h; exact .inr h
          rcases hq with hq | hq
          · obtain rfl | rfl | rfl | rfl | rfl : i = 0 ∨ i = 1 ∨ i = 2 ∨ i = 3 ∨ i = 4 := by omega
            all_goals
              have hd : d.toNat = _ := congrArg UInt8.toNat hq.symm
              simp only [ltr, lets, List.getElem?_cons_zero, List.getElem?_cons_succ, Option.getD_some, UInt8.reduceToNat] at hd
              simp only [hd]
              clear hq
              go_wp2
              go_ret
              exact ⟨rfl, ext_under HB2.out (Nat.le_refl _) hJ.out.1⟩
          · have hn2 : Hid (∀ m, m < i + 1 → ltr m ≠ d) := fun m hm => by
              by_cases h : m = i
              · rw [h]; exact hq
              · exact hJ.out.2 m (by omega)
            have hd : (ltr i).toNat ≠ d.toNat := fun h => hq (UInt8.toNat_inj.1 h)
            clear hq hd
            obtain rfl | rfl | rfl | rfl | rfl : i = 0 ∨ i = 1 ∨ i = 2 ∨ i = 3 ∨ i = 4 := by omega
            all_goals
              go_wp2
              · go_ret
                exact ⟨rfl, ext_under HB2.out (Nat.le_refl _) hJ.out.1⟩
              · go_roundg (gk - 1)
                case measure => omega
                case rel => exact ⟨_, by go_num, by omega, by omega, hJ.out.1, hn2.out⟩
        · obtain rfl : i = 5 := by omega
          have hkd : Hid (kdOf d.toNat = none) := by
            have h := hJ.out.2
            have h0 := fun e => h 0 (by decide) (UInt8.toNat_inj.1 (show (ltr 0).toNat = d.toNat from e))
            have h1 := fun e => h 1 (by decide) (UInt8.toNat_inj.1 (show (ltr 1).toNat = d.toNat from e))
            have h2 := fun e => h 2 (by decide) (UInt8.toNat_inj.1 (show (ltr 2).toNat = d.toNat from e))
            have h3 := fun e => h 3 (by decide) (UInt8.toNat_inj.1 (show (ltr 3).toNat = d.toNat from e))
            have h4 := fun e => h 4 (by decide) (UInt8.toNat_inj.1 (show (ltr 4).toNat = d.toNat from e))
            simp only [ltr, lets, List.getElem?_cons_zero, List.getElem?_cons_succ, Option.getD_some, UInt8.reduceToNat] at h0 h1 h2 h3 h4
            unfold Hid kdOf
            rw [if_neg (fun e => h0 e.symm), if_neg (fun e => h1 e.symm), if_neg (fun e => h2 e.symm), if_neg (fun e => h3 e.symm), if_neg (fun e => h4 e.symm)]
          clear hgk hi5 hlt
          go_wp2
          go_loopg [16, 17] 20 (fun gk v16 v17 wq => ∃ (i : Nat) (s : ByteArray), v16 = .string s ∧ v17 = .int .i64 (i : Int) ∧ 20 ≤ i + gk ∧ i ≤ 20 ∧ s.size = i ∧ Hid (Below W2.heap.size W2 wq ∧ s.data.toList = zl d P i))
          case atStart => exact ⟨0, _, rfl, rfl, by omega, by omega, rfl, hJ.out.1, rfl⟩
          case round =>
            obtain ⟨i, s, rfl, rfl, hgk, hi20, hsz, hZ⟩ := hrel
            by_cases hlt : i < 20
            · have e1 : decide ((i : Int) < 20) = true := decide_eq_true (by omega)
              have e2 : decide (i < 20) = true := decide_eq_true hlt
              by_cases hiP : i = P
              · have q1 : ((i : Int) == (P : Int)) = true := by rw [hiP]; simp
                have q2 : (i == P) = true := by rw [hiP]; simp
                have hnx : Hid ((s ++ (⟨[d].toArray⟩ : ByteArray)).data.toList = zl d P (i + 1)) := by
                  rw [Hid, zl_next, if_pos hiP, ← hZ.out.2]; simp [ByteArray.data_append]
                have hs1 : Hid ((s ++ (⟨[d].toArray⟩ : ByteArray)).size = i + 1) := by rw [Hid, ByteArray.size_append, hsz]; rfl
                have hcw := FForm.conv_str [d] (some ⟨wr.heap.size, 0, none⟩) 1 1 _ (wr.alloc (.cells #[.int .u8 (d.toNat : Int)] 5)) (lit_one (enc := encB) wr d 5 rfl) rfl
                have hok : ¬ (s.size + 1 > 9223372036854775807) := by omega
                clear hiP
                go_wp2
                go_roundg (gk - 1)
                case measure => omega
                case rel => exact ⟨i + 1, _, rfl, by go_num, by omega, by omega, hs1.out, ext_under hZ.out.1 (Nat.le_refl _) (below_1 _ _), hnx.out⟩
              · have q1 : ((i : Int) == (P : Int)) = false := by simp; omega
                have q2 : (i == P) = false := by simp; omega
                have hnx : Hid ((s ++ (⟨#[102]⟩ : ByteArray)).data.toList = zl d P (i + 1)) := by
                  rw [Hid, zl_next, if_neg hiP, ← hZ.out.2]; simp [ByteArray.data_append]
                have hs1 : Hid ((s ++ (⟨#[102]⟩ : ByteArray)).size = i + 1) := by rw [Hid, ByteArray.size_append, hsz]; rfl
                have hok : ¬ (s.size + 1 > 9223372036854775807) := by omega
                clear hiP
                go_wp2
                go_roundg (gk - 1)
                case measure => omega
                case rel => exact ⟨i + 1, _, rfl, by go_num, by omega, by omega, hs1.out, hZ.out.1, hnx.out⟩
            · obtain rfl : i = 20 := by omega
              obtain ⟨v0, hvi, hv0, hv1, hv2⟩ := info_parts vInfo
              obtain ⟨b0, hbi, hb0, hb1', hb2⟩ := info_parts Word.byInfo
              have hs64 : s.data.toList.length ≤ 1000000 := by have := congrArg List.length hZ.out.2; rw [zl_len] at this; omega
              have hsn : schemaP s.data.toList = none := by rw [hZ.out.2]; exact zl_none hP20 hkd.out
              have hput : Hid (∀ (A : Option Addr) (W : World), VRd W A 20 (List.replicate 20 wr0) → Calls Try.prog 18 #[.string s, .slice A 20 20] W (RetPut W ([], 2))) := by
                intro A W hv
                have h := put_any' s _ A 20 20 W hs64 hv
                rw [show putP s.data.toList ((List.replicate 20 wr0).map Wr.v) = ([], 2) from by unfold putP; rw [hsn]] at h
                exact h
              have htk : Hid (∀ (A : Option Addr) (W : World), BySl W W.heap.size A (List.replicate 20 0) → Calls Try.prog 24 #[.string s, .slice A 20 20] W (RetTake W ([], 0, 2))) := by
                intro A W hv
                have h := Wire.take_any s _ A 20 20 W hs64 hv (by simp [Hid]) (Nat.le_refl _) (by decide)
                rw [show takeP s.data.toList (List.replicate 20 0) = ([], 0, 2) from by unfold takeP; rw [hsn]] at h
                exact h
              have HBW := Lib.hid (ext_under HB2.out (Nat.le_refl _) hZ.out.1)
              clear hsn hs64 hlt hi20 hgk
              go_wp2_with (first | (at_make; refine wpList_make_full _ rfl _ _ 22 rfl wr.heap.size 38 v0 _ 5 Try.underlying22 hvi hv0 hv1 _ _ _ _ 20 rfl rfl (by rfl) (by rfl) (by rw [hv2]; decide) (by decide) (Nat.le_refl _) ?_; intro w6 hmk hgr; have HM := Lib.hid (And.intro (rd0 hmk) (Below.grown HBW.out hgr HBW.out.size (by simp))); clear hmk hgr) | (go_at_call 18; refine (hput.out _ _ HM.out.1).mono ?_; rintro e w7 ⟨hb7, A7, n7, c7, rfl, _, _⟩; have HB7 := Lib.hid (ext_under HM.out.2 (Nat.le_refl _) hb7); clear hb7) | (at_make; refine wpList_make_full _ rfl _ _ 25 rfl w7.heap.size 5 b0 _ 1 Try.underlying25 hbi hb0 hb1' _ _ _ _ 20 rfl rfl (by rfl) (by rfl) (by rw [hb2]; decide) (by decide) (Nat.le_refl _) ?_; intro w8 hmk hgr; have HM8 := Lib.hid (And.intro (made_b hmk) (Below.grown HB7.out hgr HB7.out.size (by simp))); clear hmk hgr) | (go_at_call 24; refine (htk.out _ _ HM8.out.1).mono ?_; rintro e w9 ⟨hb9, A9, n9, c9, rs, rfl, _, _⟩; have HB9 := Lib.hid (ext_under HM8.out.2 (Nat.le_refl _) hb9); clear hb9))
              go_ret
              exact ⟨rfl, HB9.out⟩
theorem walk' (wh z q pl : Int) (w : World) (hz : (Lit.int .u64 z).wf = true) (hq : (Lit.int .u8 q).wf = true) : Calls Try.prog 4 #[.int .i64 wh, .int .u64 z, .int .u8 q, .int .i64 pl] w fun e w' => e = .returned (.bool true) ∧ Below w.heap.size w w' := by
  have h1 : 0 ≤ z ∧ z ≤ 18446744073709551615 := by simpa [Lit.wf, IntKind.min, IntKind.max, IntKind.signed, IntKind.bits] using hz
  have h2 : 0 ≤ q ∧ q ≤ 255 := by simpa [Lit.wf, IntKind.min, IntKind.max, IntKind.signed, IntKind.bits] using hq
  obtain ⟨n, rfl⟩ : ∃ n : Nat, z = (n : Int) := ⟨z.toNat, by omega⟩
  obtain ⟨d, rfl⟩ : ∃ d : UInt8, q = (d.toNat : Int) := ⟨UInt8.ofNat q.toNat, by rw [UInt8.toNat_ofNat']; omega⟩
  exact walk wh n d pl w (by unfold p64; omega)
set_option maxRecDepth 100000 in
theorem lifted (os : Os) (started : os.Started) (H : Type) (enc : TypeId × Value → H) :
    ReturnsInHanded {} Try.checked os 4 .any (Rows.wireZeroSpec.pre6 enc Try.prog Try.f4 Rows.wireZeroRow.domain false) (Rows.wireZeroSpec.post enc Try.prog Try.f4 false true false false) := by
  refine returnsInHanded_of_change_sized (C := Try.checked) own started (by kernel_rfl) Try.func4
    (ChangeSpec.witness6 (enc := enc) (C := Try.checked) false ⟨#[], #[.int .i64 0, .int .u64 0, .int .u8 0, .int .i64 0], []⟩ 8 (by kernel_rfl) (by kernel_rfl) (by kernel_rfl) (by kernel_rfl)) ?_
  intro W base args ds gs before hval0 hW hcnd hsz0 _
  have hval : ∀ (j : Nat) t v, Try.f4.params[j]? = some t → args[j]? = some v → Value.okWide Try.prog W .any base t v := hval0
  have hW' := hW
  obtain ⟨p, q, hA0, hV, rfl, hfz, hnd⟩ := hW
  have hA : DataW.TrodAll enc Try.prog W 0 (fun _ => true) true Try.f4.params.toList args.toList ds p := hA0
  have hsz : (DataW.weightsEach Try.prog (Try.f4.params.toList ++ []) (ds ++ gs)).all (· ≤ reachBytes) = true := hsz0
  rw [Try.params4] at hA hval hsz
  have hAll := hA
  obtain ⟨v0, vs0, d0, ds0, p0, q0, hargs, rfl, rfl, h0, r0⟩ := trodAll_cons hA
  obtain ⟨v1, vs1, d1, ds1, p1, q1, rfl, rfl, rfl, h1, r1⟩ := trodAll_cons r0
  obtain ⟨v2, vs2, d2, ds2, p2, q2, rfl, rfl, rfl, h2, r2⟩ := trodAll_cons r1
  obtain ⟨v3, vs3, d3, ds3, p3, q3, rfl, rfl, rfl, h3, r3⟩ := trodAll_cons r2
  obtain ⟨rfl, rfl, rfl⟩ := trodAll_nil r3
  obtain rfl : args = #[v0, v1, v2, v3] := by cases args; simp_all
  obtain ⟨rfl, rfl⟩ := trodVars_none hV
  obtain ⟨a, rfl, _, _, a_wf⟩ := open_int Try.underlying3 (hval 0 3 v0 rfl rfl) h0
  obtain ⟨b, rfl, _, _, b_wf⟩ := open_int Try.underlying34 (hval 1 34 v1 rfl rfl) h1
  obtain ⟨c, rfl, _, _, c_wf⟩ := open_int Try.underlying5 (hval 2 5 v2 rfl rfl) h2
  obtain ⟨p, rfl, _, _, p_wf⟩ := open_int Try.underlying3 (hval 3 3 v3 rfl rfl) h3
  refine (walk' a b c p W b_wf c_wf).mono fun e W' ⟨he, bel⟩ => ?_
  subst he
  exact ⟨_, rfl, _, _, _, [], _, [], hW', trodAll_mk1 (shut_bool Try.underlying4 _), keep_args laidOut bel (by kernel_rfl) hAll, rfl, bel.frame _, fun h => by cases h⟩

theorem over : Rows.wireZeroRow.holds Try.pinned (OpenSpec.ofChange Rows.wireZeroSpec) :=
  OpenClaim.holds_of_wide 4 Try.f4 rfl rfl rfl rfl rfl rfl rfl ⟨rfl, rfl, rfl, rfl, rfl⟩ rfl rfl rfl rfl rfl (by kernel_rfl) Try.func4 (by kernel_rfl)
    (of_decide_eq_true (by kernel_rfl)) (by unfold Func.isWrapper; first | (rw [if_pos (by decide +kernel)]; kernel_rfl) | (rw [if_neg (by decide +kernel)]; exact ⟨rfl, rfl⟩))
    (fun os started H enc _ => lifted os started H enc)

theorem proved : Rows.WireZeroSaid := over
#print axioms proved
end Go.Proofs.Ytoneechcclndaaa.lawZero
