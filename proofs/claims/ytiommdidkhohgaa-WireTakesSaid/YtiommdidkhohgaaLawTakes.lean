/- WireTakes: of any bytes, by any schema, the values are taken that the chapter says, or none; whatever the input, the law returns true and leaves its arguments as they were. -/
import Derived.Test.YtiommdidkhohgaaWireP
import Derived.Test.YtiommdidkhohgaaLift
import Derived.ChangeMaps5
import Derived.Outline
import Derived.BigQuiet
import Derived.Deep.QuietTactic
import Derived.Deep.RegionWith
import Derived.Deep.RegionHeld3
import Derived.Deep.DrawnRows
import Derived.Deep.LoopGhost
import Derived.Deep.DeepCutAuto
import Derived.Laws.EntriesVeiled
namespace Go.Proofs.Ytiommdidkhohgaa.lawTakes
open Go.RowKit Go.ChangeShapes Go.WideShapes Go.ChangeAt
set_option linter.unusedVariables false
set_option linter.unusedSimpArgs false
attribute [local go_sem ↓] Go.wp_at_zero Go.wp_at_succ
open Wire Word Bytes Go.Shelf

theorem opens_u8 {H : Type} {ench : TypeId × Value → H} {w : World} {base : Nat} {held : Bool} : OpensAs ench Try.prog w base held 5 encB (fun _ => True) := by
  intro fuel cs x h hw
  obtain ⟨n, rfl, k⟩ := opens_int Try.underlying5 _ _ _ h hw
  have hb : 0 ≤ n ∧ n ≤ 255 := by simpa [Lit.wf, IntKind.min, IntKind.max, IntKind.signed, IntKind.bits] using k
  refine ⟨UInt8.ofNat n.toNat, ?_, trivial⟩
  simp only [encB]
  congr 2
  rw [UInt8.toNat_ofNat']
  omega

/-- bytes that may be written, whatever they are -/
def ByAt (w : World) (A : Option Addr) (n : Nat) : Prop :=
  n = 0 ∨ ∃ g off cur, A = some ⟨g, off, none⟩ ∧ Blk w g 5 cur ∧ ∀ j, j < n → ∃ z, cur[off + j]? = some (.int .u8 z)
theorem ByAt.of_own {w : World} {A : Option Addr} {n c : Nat} {l : List UInt8} (h : OwnA w 5 1 encB (.slice A n c) l) : ByAt w A n := by
  have hn := h.len
  rcases A with _ | ⟨g, o, m⟩
  · left
    rcases h with ⟨_, h⟩ | ⟨g, off, cap, cur, h, _⟩
    · rw [hn, h]; rfl
    · cases h
  · by_cases h0 : n = 0
    · exact .inl h0
    · obtain ⟨off, cap, cur, hv, hb, hle, _, hsz, hc⟩ := h.row (g := g) rfl
      simp only [Value.slice.injEq, Option.some.injEq, Addr.mk.injEq] at hv
      obtain ⟨⟨_, rfl, rfl⟩, rfl, rfl⟩ := hv
      refine .inr ⟨g, o, cur, rfl, hb, fun j hj => ?_⟩
      have hx : l[j]? = some l[j] := List.getElem?_eq_getElem hj
      have h2 := flat_at encB_len l j 0 _ hx (by decide)
      rw [← hc] at h2
      simp only [Nat.mul_one, Nat.add_zero, encB, List.getElem?_cons_zero] at h2
      rw [List.getElem?_take_of_lt hj, List.getElem?_drop] at h2
      exact ⟨_, by simpa using h2⟩
theorem ByAt.set_ {w : World} {A : Option Addr} {n g : Nat} {t : TypeId} {cs : Array Value} (h : ByAt w A n) (hg : Blk w g t cs) (i : Nat) (z : Int) : ByAt (w.setCell ⟨g, i, none⟩ (.int .u8 z)) A n := by
  rcases h with h | ⟨g', off, cur, hA, hb, hz⟩
  · exact .inl h
  · by_cases hgg : g' = g
    · subst hgg
      refine .inr ⟨g', off, _, hA, hb.set_ i _, fun j hj => ?_⟩
      obtain ⟨y, hy⟩ := hz j hj
      by_cases hij : i = off + j
      · subst hij
        exact ⟨z, by rw [Array.getElem?_setIfInBounds_self_of_lt]; exact (Array.getElem?_eq_some_iff.1 hy).1⟩
      · exact ⟨y, by rw [Array.getElem?_setIfInBounds_ne hij]; exact hy⟩
    · exact .inr ⟨g', off, cur, hA, hb.far hgg _, hz⟩

/-- what stands while what was told is written over; w1: the world behind the copy -/
structure LI (w1 wr : World) (A : Option Addr) (n c : Nat) (rs : List Wr) : Prop where
  row : OwnA wr 34 5 Wr.cells (.slice A n c) rs
  by_ : ∀ r ∈ rs, ByAt wr r.bA r.bn
  fr : ∀ r ∈ rs, ∀ k, blockOf r.bA = some k → w1.heap.size ≤ k
  be : Below w1.heap.size w1 wr
theorem LI.step {w1 wr : World} {A : Option Addr} {n c : Nat} {rs : List Wr} (h : LI w1 wr A n c rs) {g i : Nat} {cs : Array Value} (hg : Blk wr g 5 cs) (hf : w1.heap.size ≤ g) (z : Int) : LI w1 (wr.setCell ⟨g, i, none⟩ (.int .u8 z)) A n c rs :=
  ⟨h.row.chg ((Chg.refl (fun k => k = g) wr).setCell (p := ⟨g, i, none⟩) (fun _ => rfl) _) (fun k hk e => OwnA.apart h.row hg (by decide) (e ▸ hk)),
    fun r hr => (h.by_ r hr).set_ hg i z, h.fr, h.be.setCell (p := ⟨g, i, none⟩) hf _⟩

theorem takeS_len : ∀ (ks : List Kd) (l : List UInt8) (vs : List WV) (u : Nat), takeS ks l = some (vs, u) → vs.length = ks.length
  | [], l, vs, u, h => by simp only [takeS, Option.some.injEq, Prod.mk.injEq] at h; rw [← h.1]; rfl
  | k :: ks, l, vs, u, h => by
    unfold takeS at h
    cases hk : takeK k l with
    | none => rw [hk] at h; cases h
    | some x =>
      obtain ⟨v, t⟩ := x
      rw [hk] at h
      simp only at h
      cases hr : takeS ks (l.drop t) with
      | none => rw [hr] at h; cases h
      | some y =>
        obtain ⟨ys, t'⟩ := y
        rw [hr] at h
        simp only [Option.map_some, Option.some.injEq, Prod.mk.injEq] at h
        rw [← h.1, List.length_cons, List.length_cons, takeS_len ks _ _ _ hr]
theorem takeP_len (s l : List UInt8) : (takeP s l).1.length ≤ 64 := by
  unfold takeP
  cases hs : schemaP s with
  | none => simp
  | some ks =>
    simp only
    cases ht : takeS ks l with
    | none => simp [outT]
    | some x =>
      obtain ⟨vs, u⟩ := x
      simp only [outT]
      rw [takeS_len ks l vs u ht]
      unfold schemaP at hs
      split at hs
      · rw [kds_length _ _ hs]; assumption
      · cases hs
theorem wholeP_len (s l : List UInt8) : (wholeP s l).1.length ≤ 64 := by
  unfold wholeP
  simp only
  split
  · simp
  · exact takeP_len s l

set_option maxHeartbeats 4000000 in
theorem walk (s : ByteArray) (l : List UInt8) (A : Option Addr) (n cap : Nat) (w : World) (hl : BySl w w.heap.size A l) (hn : Hid (n = l.length)) (hc : n ≤ cap) :
    Calls Try.prog 3 #[.string s, .slice A n cap] w fun e w' => e = .returned (.bool true) ∧ Below w.heap.size w w' := by
  by_cases hs : 100 < s.size
  · have h1 : decide ((100 : Int) < (s.size : Int)) = true := decide_eq_true (by omega)
    go_enter Try.func3, Try.ntmps3
    go_wp2
    go_ret
    exact ⟨rfl, Below.refl _ _⟩
  · have h1 : decide ((100 : Int) < (s.size : Int)) = false := decide_eq_false (by omega)
    by_cases hn2 : 2000 < n
    · have h2 : decide ((2000 : Int) < (n : Int)) = true := decide_eq_true (by omega)
      go_enter Try.func3, Try.ntmps3
      go_wp2
      go_ret
      exact ⟨rfl, Below.refl _ _⟩
    · have h2 : decide ((2000 : Int) < (n : Int)) = false := decide_eq_false (by omega)
      have hss : s.data.toList.length ≤ 1000000 := by have : s.size = s.data.toList.length := rfl; omega
      have hS := Lib.hid hss
      have hN : Hid (l.length ≤ 140737488355328) := by rw [Hid, ← hn.out]; omega
      obtain ⟨X, hX⟩ : ∃ X, takeP s.data.toList l = X := ⟨_, rfl⟩
      obtain ⟨Y, hY⟩ : ∃ Y, wholeP s.data.toList l = Y := ⟨_, rfl⟩
      have hXl : Hid (X.1.length ≤ 64) := by rw [Hid, ← hX]; exact takeP_len _ _
      have hYl : Hid (Y.1.length ≤ 64) := by rw [Hid, ← hY]; exact wholeP_len _ _
      have ht := fun MA mn mc W a b c d => take_any s l MA mn mc W hS.out a b c d
      have hr := fun MA mn mc W a b c d => rtake_any s l MA mn mc W hS.out a b c d
      have hwh := fun MA mn mc W a b c d => whole_any s l MA mn mc W hS.out a b c d
      have hrw := fun MA mn mc W a b c d => rwhole_any s l MA mn mc W hS.out a b c d
      rw [hX] at ht hr
      rw [hY] at hwh hrw
      clear hX hY hss
      obtain ⟨vs, u, er⟩ := X
      obtain ⟨ys, er2⟩ := Y
      have HT := Lib.hid (And.intro ht (And.intro hr (And.intro hwh hrw)))
      have HL := Lib.hid hl
      clear ht hr hwh hrw hl
      go_enter Try.func3, Try.ntmps3
      go_wp2_with fail
      refine (copy_any l A n cap w HL.out hN.out hn).mono ?_; rintro e w1 ⟨mv, rfl, hown, hb1⟩
      obtain ⟨MA, mn, mc, rfl, hmn, hmle, hmmx⟩ := hown.form
      have M1 : Hid (BySl w1 w1.heap.size MA l ∧ BySl w1 w1.heap.size A l ∧ Below w.heap.size w w1) := ⟨hown.sls encB_len, HL.out.ext hb1, hb1⟩
      have hmn2 : mn ≤ 1000000000000 := by rw [hmn.out, ← hn.out]; omega
      clear hown hb1
      go_wp2_with fail
      refine (HT.out.1 MA mn mc w1 M1.out.1 hmn hmle hmn2).mono ?_; rintro e w2 ⟨hb2, LA, ln, lc, ls, rfl, hls, hvo⟩
      have T2 : Hid (VOwn w1.heap.size w2 LA ln lc ls ∧ Below w1.heap.size w1 w2 ∧ ls.map Wr.v = vs) := ⟨hvo, hb2, hls⟩
      clear hvo hb2 hls
      go_wp2_with fail
      refine (HT.out.2.1 A n cap w2 ((M1.out.2.1.below T2.out.2.1).more T2.out.2.1.size) hn hc (by omega)).mono ?_; rintro e w3 ⟨hb3, RA, rn, rc, rs, rfl, hrs, hro⟩
      have T3 : Hid (VOwn w2.heap.size w3 RA rn rc rs ∧ Below w2.heap.size w2 w3 ∧ rs.map Wr.v = vs) := ⟨hro, hb3, hrs⟩
      clear hro hb3 hrs
      go_wp2_with fail
      have hq : eqVs (ls.map Wr.v) (rs.map Wr.v) = true := by rw [T2.out.2.2, T3.out.2.2]; exact eqVs_self _
      have hsm := rSame_any ls rs LA RA ln rn lc rc w3 ((T2.out.1.rd (by rw [← List.length_map (f := Wr.v), T2.out.2.2]; have := hXl.out; omega)).ext T3.out.2.1) (T3.out.1.rd (by rw [← List.length_map (f := Wr.v), T3.out.2.2]; have := hXl.out; omega))
      rw [hq] at hsm
      have HSM := Lib.hid hsm
      clear hq hsm
      refine HSM.out.mono ?_; rintro e w4 ⟨rfl, hb4⟩
      have hL4 : Hid (LI w1 w4 LA ln lc ls) := by
        have hb24 : Below w2.heap.size w2 w4 := T3.out.2.1.trans (hb4.mono T3.out.2.1.size)
        have hv := T2.out.1.ext hb24
        exact ⟨hv.own, fun r hr => ByAt.of_own (hv.ok r hr).b, fun r hr k hk => (hv.from' r hr).1 k hk, ext_under T2.out.2.1 (Nat.le_refl _) (hb24.mono (Nat.le_refl _))⟩
      have hln : Hid (ln = ls.length) := T2.out.1.own.len
      clear hb4
      go_wp2
      go_loopg [12] ln (fun g v wr => ∃ j : Nat, v = .int .i64 (j : Int) ∧ ln ≤ j + g ∧ j ≤ ln ∧ Hid (LI w1 wr LA ln lc ls))
      case atStart => exact ⟨0, rfl, by omega, by omega, hL4.out⟩
      case round =>
        obtain ⟨j, rfl, hg, hj, hLI⟩ := hrel
        by_cases hlt : j < ln
        · have hj1 : j < ls.length := by rw [← hln.out]; exact hlt
          have b0 : (0 : Int) ≤ (j : Int) := Int.natCast_nonneg _
          have b2 : (j : Int) < (ln : Int) := by omega
          have b3 : decide (j < ln) = true := decide_eq_true hlt
          have hlnb : ln ≤ 64 := by rw [hln.out, ← List.length_map (f := Wr.v), T2.out.2.2]; exact hXl.out
          have hr : ls[j]? = some ls[j] := List.getElem?_eq_getElem hj1
          have HM : Hid (ls[j] ∈ ls ∧ ls[j]? = some ls[j]) := ⟨List.getElem_mem hj1, hr⟩
          have hbn : ls[j].bn ≤ 1000000 := by
            have h5 := (T2.out.1.ok _ HM.out.1)
            rw [h5.b.len]; exact h5.wf.2.2.2.2.1
          generalize ls[j] = r at *
          generalize gk = g0 at *
          clear hr
          go_wp2
          go_loopg [13] r.bn (fun g v wx => ∃ k : Nat, v = .int .i64 (k : Int) ∧ r.bn ≤ k + g ∧ k ≤ r.bn ∧ Hid (LI w1 wx LA ln lc ls))
          case atStart => exact ⟨0, rfl, by omega, by omega, hLI.out⟩
          case round =>
            obtain ⟨k, rfl, hg2, hk2, hLJ⟩ := hrel
            obtain ⟨bb, off, hLA, hbb, c0, c1, c2, c3, c4⟩ := Wr.at_ (hLJ.out.row.sl Wr.cells_len) HM.out.2
            subst hLA
            by_cases hkl : k < r.bn
            · have k0 : (0 : Int) ≤ (k : Int) := Int.natCast_nonneg _
              have k2 : (k : Int) < (r.bn : Int) := by omega
              have k3 : decide (k < r.bn) = true := decide_eq_true hkl
              rcases hLJ.out.by_ r HM.out.1 with hz | ⟨g2, off2, cur, hA, hblk, hz⟩
              · omega
              · obtain ⟨z, hz⟩ := hz k hkl
                have hfr := hLJ.out.fr r HM.out.1 g2 (by rw [hA]; rfl)
                rw [hA] at c3
                have d0 : wr.cell? ⟨g2, off2 + k, none⟩ = some (.int .u8 z) := (hblk.cell _).trans hz
                have d1 := hblk.free (off2 + k)
                have HB := Lib.hid (And.intro hblk hfr)
                clear hblk hz hfr
                go_wp2
                go_roundg (gk - 1)
                case measure => omega
                case rel => exact ⟨k + 1, by go_num, by omega, by omega, hLJ.out.step HB.out.1 HB.out.2 _⟩
            · have k2 : ¬ (k : Int) < (r.bn : Int) := by omega
              have k3 : decide (k < r.bn) = false := decide_eq_false hkl
              go_wp2
              go_roundg (g0 - 1)
              case measure => omega
              case rel => exact ⟨j + 1, by go_num, by omega, by omega, hLJ.out⟩
        · have b2 : ¬ (j : Int) < (ln : Int) := by omega
          have b3 : decide (j < ln) = false := decide_eq_false hlt
          have hb : Hid (BySl wr wr.heap.size MA l ∧ BySl wr wr.heap.size A l) := ⟨(M1.out.1.below hLI.out.be).more hLI.out.be.size, (M1.out.2.1.below hLI.out.be).more hLI.out.be.size⟩
          go_wp2_with fail
          refine (HT.out.2.2.1 MA mn mc wr hb.out.1 hmn hmle hmn2).mono ?_; rintro e w5 ⟨hb5, XA, xn, xc, xs, rfl, hxs, hxo⟩
          have T5 : Hid (VOwn wr.heap.size w5 XA xn xc xs ∧ Below wr.heap.size wr w5 ∧ xs.map Wr.v = ys) := ⟨hxo, hb5, hxs⟩
          clear hxo hb5 hxs
          go_wp2_with fail
          refine (HT.out.2.2.2 A n cap w5 (hb.out.2.ext T5.out.2.1) hn hc (by omega)).mono ?_; rintro e w6 ⟨hb6, YA, yn, yc, ys', rfl, hys, hyo⟩
          have T6 : Hid (VOwn w5.heap.size w6 YA yn yc ys' ∧ Below w5.heap.size w5 w6 ∧ ys'.map Wr.v = ys) := ⟨hyo, hb6, hys⟩
          clear hyo hb6 hys
          go_wp2_with fail
          have hq : eqVs (xs.map Wr.v) (ys'.map Wr.v) = true := by rw [T5.out.2.2, T6.out.2.2]; exact eqVs_self _
          have hsm := rSame_any xs ys' XA YA xn yn xc yc w6 ((T5.out.1.rd (by rw [← List.length_map (f := Wr.v), T5.out.2.2]; have := hYl.out; omega)).ext T6.out.2.1) (T6.out.1.rd (by rw [← List.length_map (f := Wr.v), T6.out.2.2]; have := hYl.out; omega))
          rw [hq] at hsm
          have HSM2 := Lib.hid hsm
          clear hq hsm
          refine HSM2.out.mono ?_; rintro e w7 ⟨rfl, hb7⟩
          have hb8 : Hid (Below wr.heap.size wr w7) := by
            have h56 := ext_under T5.out.2.1 (Nat.le_refl _) T6.out.2.1
            exact ext_under h56 (Nat.le_refl _) hb7
          clear hb7
          go_wp2_with fail
          have hs2 := same_at l l MA A mn n mc cap w7 (hb.out.1.ext hb8.out) (hb.out.2.ext hb8.out) hmn hn (by unfold maxLen; omega) (by unfold maxLen; omega)
          rw [eqB_self] at hs2
          have HSM3 := Lib.hid hs2
          clear hs2
          refine HSM3.out.mono ?_; rintro e w8 ⟨rfl, nq, rfl⟩
          go_wp2
          go_ret
          refine ⟨rfl, ?_⟩
          have h1 : Below w.heap.size w wr := M1.out.2.2.trans (hLI.out.be.mono M1.out.2.2.size)
          exact bdrewN (ext_under h1 (Nat.le_refl _) hb8.out) nq

set_option maxRecDepth 100000 in
theorem lifted (os : Os) (started : os.Started) (H : Type) (enc : TypeId × Value → H) :
    ReturnsInHanded {} Try.checked os 3 .any (Rows.wireTakesSpec.pre6 enc Try.prog Try.f3 Rows.wireTakesRow.domain false) (Rows.wireTakesSpec.post enc Try.prog Try.f3 false true false false) := by
  refine returnsInHanded_of_change_sized (C := Try.checked) own started (by kernel_rfl) Try.func3
    (ChangeSpec.witness6 (enc := enc) (C := Try.checked) false ⟨#[], #[.string ByteArray.empty, .slice none 0 0], []⟩ 8 (by kernel_rfl) (by kernel_rfl) (by kernel_rfl) (by kernel_rfl)) ?_
  intro W base args ds gs before hval0 hW hcnd hsz0 _
  have hval : ∀ (j : Nat) t v, Try.f3.params[j]? = some t → args[j]? = some v → Value.okWide Try.prog W .any base t v := hval0
  have hW' := hW
  obtain ⟨p, q, hA0, hV, rfl, hfz, hnd⟩ := hW
  have hA : DataW.TrodAll enc Try.prog W 0 (fun _ => true) true Try.f3.params.toList args.toList ds p := hA0
  have hsz : (DataW.weightsEach Try.prog (Try.f3.params.toList ++ []) (ds ++ gs)).all (· ≤ reachBytes) = true := hsz0
  rw [Try.params3] at hA hval hsz
  have hAll := hA
  obtain ⟨v0, vs0, d0, ds0, p0, q0, hargs, rfl, rfl, h0, r0⟩ := trodAll_cons hA
  obtain ⟨v1, vs1, d1, ds1, p1, q1, rfl, rfl, rfl, h1, r1⟩ := trodAll_cons r0
  obtain ⟨rfl, rfl, rfl⟩ := trodAll_nil r1
  obtain rfl : args = #[v0, v1] := by cases args; simp_all
  obtain ⟨rfl, rfl⟩ := trodVars_none hV
  obtain ⟨s, rfl, _, _, _⟩ := ChangeMaps.open_string Try.underlying9 (hval 0 9 v0 rfl rfl) h0
  obtain ⟨b_A, b, b_cap, rfl, b_sl, b_ok, b_le, b_max, b_reach, b_nil⟩ := open_sl Try.underlying22 (c := 1) (by kernel_rfl) (by decide) opens_u8 (hval 1 22 v1 rfl rfl) h1 (light_of hsz (j := 1) rfl rfl)
  refine (walk s b b_A b.length b_cap W b_sl rfl b_le).mono fun e W' ⟨he, bel⟩ => ?_
  subst he
  exact ⟨_, rfl, _, _, _, [], _, [], hW', trodAll_mk1 (shut_bool Try.underlying4 _), keep_args laidOut bel (by kernel_rfl) hAll, rfl, bel.frame _, fun h => by cases h⟩

theorem over : Rows.wireTakesRow.holds Try.pinned (OpenSpec.ofChange Rows.wireTakesSpec) :=
  OpenClaim.holds_of_wide 3 Try.f3 rfl rfl rfl rfl rfl rfl rfl ⟨rfl, rfl, rfl, rfl, rfl⟩ rfl rfl rfl rfl rfl (by kernel_rfl) Try.func3 (by kernel_rfl)
    (of_decide_eq_true (by kernel_rfl)) (by unfold Func.isWrapper; first | (rw [if_pos (by decide +kernel)]; kernel_rfl) | (rw [if_neg (by decide +kernel)]; exact ⟨rfl, rfl⟩))
    (fun os started H enc _ => lifted os started H enc)

theorem proved : Rows.WireTakesSaid := over
#print axioms proved
end Go.Proofs.Ytiommdidkhohgaa.lawTakes
