/- MessageReads: any bytes are the message that the chapter says, or none; they stay, and what is told is the caller's own: whatever the input, the law returns true and leaves its argument as it was. -/
import Derived.Test.YtoneechcclndaaaRMsgE
import Derived.ChangeMaps5
import Derived.Outline
import Derived.BigQuiet
import Derived.Deep.QuietTactic
import Derived.Deep.RegionWith
import Derived.Deep.RegionHeld3
import Derived.Deep.DrawnRows
import Derived.Deep.LoopGhost
import Derived.Deep.DeepCutAuto
import Derived.Laws.EntriesVeiled
namespace Go.Proofs.Ytoneechcclndaaa.lawMRd
open Go.RowKit Go.ChangeShapes Go.WideShapes Go.ChangeAt
set_option linter.unusedVariables false
set_option linter.unusedSimpArgs false
attribute [local go_sem ↓] Go.wp_at_zero Go.wp_at_succ
open Wire Word Bytes Go.Shelf Msg lawTorn

/-- bytes that may be written, whatever they are -/
def ByAt (w : World) (A : Option Addr) (n : Nat) : Prop :=
  n = 0 ∨ ∃ g off cur, A = some ⟨g, off, none⟩ ∧ Blk w g 5 cur ∧ ∀ j, j < n → ∃ z, cur[off + j]? = some (.int .u8 z)
theorem ByAt.of_own {w : World} {A : Option Addr} {n c : Nat} {l : List UInt8} (h : OwnA w 5 1 encB (.slice A n c) l) : ByAt w A n := by
  have hn := h.len
  rcases A with _ | ⟨g, o, m⟩
  · left
    rcases h with ⟨_, h⟩ | ⟨g, off, cap, cur, h, _⟩
    · rw [hn, h]; rfl
    · cases h
  · by_cases h0 : n = 0
    · exact .inl h0
    · obtain ⟨off, cap, cur, hv, hb, hle, _, hsz, hc⟩ := h.row (g := g) rfl
      simp only [Value.slice.injEq, Option.some.injEq, Addr.mk.injEq] at hv
      obtain ⟨⟨_, rfl, rfl⟩, rfl, rfl⟩ := hv
      refine .inr ⟨g, o, cur, rfl, hb, fun j hj => ?_⟩
      have hx : l[j]? = some l[j] := List.getElem?_eq_getElem hj
      have h2 := flat_at encB_len l j 0 _ hx (by decide)
      rw [← hc] at h2
      simp only [Nat.mul_one, Nat.add_zero, encB, List.getElem?_cons_zero] at h2
      rw [List.getElem?_take_of_lt hj, List.getElem?_drop] at h2
      exact ⟨_, by simpa using h2⟩
theorem ByAt.set_ {w : World} {A : Option Addr} {n g : Nat} {t : TypeId} {cs : Array Value} (h : ByAt w A n) (hg : Blk w g t cs) (i : Nat) (z : Int) : ByAt (w.setCell ⟨g, i, none⟩ (.int .u8 z)) A n := by
  rcases h with h | ⟨g', off, cur, hA, hb, hz⟩
  · exact .inl h
  · by_cases hgg : g' = g
    · subst hgg
      refine .inr ⟨g', off, _, hA, hb.set_ i _, fun j hj => ?_⟩
      obtain ⟨y, hy⟩ := hz j hj
      by_cases hij : i = off + j
      · subst hij
        exact ⟨z, by rw [Array.getElem?_setIfInBounds_self_of_lt]; exact (Array.getElem?_eq_some_iff.1 hy).1⟩
      · exact ⟨y, by rw [Array.getElem?_setIfInBounds_ne hij]; exact hy⟩
    · exact .inr ⟨g', off, cur, hA, hb.far hgg _, hz⟩
theorem may_len {m : Ms} (h : mayB m = true) : m.bs.length ≤ 48 ∧ m.kind ≤ 255 := by
  obtain ⟨k, hk, hm⟩ := may_kk h
  have ha := mayK_all hm
  rcases kk_cases hk with ⟨h1, rfl⟩ | ⟨h1, rfl⟩ | ⟨h1, rfl⟩ | ⟨h1, rfl⟩ | ⟨h1, rfl⟩ <;> (
    simp at ha
    have h2 := ha.2.2.2.2
    first | exact ⟨by omega, by omega⟩ | exact ⟨by rw [h2.1]; decide, by omega⟩)
theorem parse_bd (b : List UInt8) : (parseM b).1.bs.length ≤ 48 ∧ (parseM b).1.kind ≤ 255 := by
  rcases parse_two b with h | ⟨m, h⟩
  · rw [h]; exact ⟨by decide, by decide⟩
  · rw [h]; exact may_len (print_parse h).1
theorem rd_of {w : World} {r : Mr} (ho : OwnA w 5 1 encB (.slice r.A r.n r.c) r.v.bs) (hm : r.v.bs.length ≤ 48) (hk : r.v.kind ≤ 255) : r.Rd w := ⟨ho.sl encB_len, ho.len, by omega, hk⟩
theorem zM7 (r : Mr) : (#[.int .u8 0, .int .i64 0, .int .i64 0, .int .i64 0, .int .i64 0, .bool false, .slice none 0 0] : Array Value).size = (#[.int .u8 (r.v.kind : Int), .int .i64 r.v.client, .int .i64 r.v.epoch, .int .i64 r.v.width, .int .i64 r.v.seq, .bool r.v.last, .slice r.A r.n r.c] : Array Value).size := by simp
/-- what the turns keep -/
structure RM (w W : World) (A : Option Addr) (MA : Option Addr) (l : List UInt8) (g : Nat) (rw' : Mr) : Prop where
  b : BySl W W.heap.size A l
  mine : BySl W W.heap.size MA l
  box : Blk W g 48 (Mr.cells rw')
  rd : rw'.Rd W
  be : Below w.heap.size w W
theorem RM.ext {w W W' : World} {A MA : Option Addr} {l : List UInt8} {g : Nat} {r : Mr} (h : RM w W A MA l g r) (hb : Below W.heap.size W W') : RM w W' A MA l g r := ⟨h.b.ext hb, h.mine.ext hb, h.box.ext hb, h.rd.ext hb, ext_under h.be (Nat.le_refl _) hb⟩
/-- what stands while what was told is written over -/
structure WI (Wt wx : World) (g : Nat) (r : Mr) : Prop where
  by' : ByAt wx r.A r.n
  box : Blk wx g 48 (Mr.cells r)
  be : Below Wt.heap.size Wt wx
  gle : Wt.heap.size ≤ g
  fr : ∀ k, blockOf r.A = some k → Wt.heap.size ≤ k
theorem WI.step {Wt wx : World} {g : Nat} {r : Mr} (h : WI Wt wx g r) {k i : Nat} {cs : Array Value} (hg : Blk wx k 5 cs) (hf : Wt.heap.size ≤ k) (z : Int) : WI Wt (wx.setCell ⟨k, i, none⟩ (.int .u8 z)) g r :=
  ⟨h.by'.set_ hg i z, h.box.far (p := ⟨k, i, none⟩) (fun e => Blk.apart h.box (by have e' : g = k := e; rw [e']; exact hg) (by decide) rfl) _, h.be.setCell (p := ⟨k, i, none⟩) hf _, h.gle, h.fr⟩
set_option maxHeartbeats 8000000 in
set_option maxRecDepth 100000 in
theorem walk (l : List UInt8) (A : Option Addr) (n cap : Nat) (w : World) (hl : BySl w w.heap.size A l) (hn : Hid (n = l.length)) (hc : n ≤ cap) :
    Calls Try.prog 6 #[.slice A n cap] w fun e w' => e = .returned (.bool true) ∧ Below w.heap.size w w' := by
  have HL := Lib.hid hl
  clear hl
  by_cases hbig : 1000 < n
  · have d1 : decide ((1000 : Int) < (n : Int)) = true := decide_eq_true (by omega)
    go_enter Try.func6, Try.ntmps6
    go_wp2
    go_ret
    exact ⟨rfl, Below.refl _ _⟩
  · have d1 : decide ((1000 : Int) < (n : Int)) = false := decide_eq_false (by omega)
    have hbd := Lib.hid (parse_bd l)
    have hp1 := Lib.hid fun MA mn mc W a b c d => parse_any l MA mn mc W a b c d
    have hp2 := Lib.hid fun MA mn mc W a b c d => rparse24_any l MA mn mc W a b c d
    generalize parseM l = X at *
    obtain ⟨m, er⟩ := X
    simp only at hbd
    have hN : Hid (l.length ≤ 140737488355328) := by rw [Hid, ← hn.out]; omega
    go_enter Try.func6, Try.ntmps6
    go_wp2_with fail
    refine (copy_any l A n cap w HL.out hN.out hn).mono ?_; rintro e w1 ⟨mv, rfl, hown, hb1⟩
    obtain ⟨MA, mn, mc, rfl, hmn, hmle, hmmx⟩ := hown.form
    have M1 : Hid (BySl w1 w1.heap.size MA l ∧ BySl w1 w1.heap.size A l ∧ Below w.heap.size w w1) := ⟨hown.sls encB_len, HL.out.ext hb1, hb1⟩
    have hmn2 : mn ≤ 1000 := by rw [hmn.out, ← hn.out]; omega
    clear hown hb1
    go_wp2_with fail
    refine (hp2.out A n cap w1 M1.out.2.1 hn hc (by omega)).mono ?_; rintro e w2 ⟨hb2, ra, rfl, hra, ho2, hf2⟩
    have R2 : Hid (ra.v = m ∧ ra.Rd w2) := by
      have hra' : ra.v = m := hra
      exact ⟨hra', rd_of ho2 (by rw [hra']; exact hbd.out.1) (by rw [hra']; exact hbd.out.2)⟩
    have T2 : Hid (RM w (w2.alloc (.cells (Mr.cells ra) 48)) A MA l w2.heap.size ra) := ⟨(M1.out.2.1.ext hb2).ext (below_1 _ _), (M1.out.1.ext hb2).ext (below_1 _ _), Blk.new _ _ _, R2.out.2.ext (below_1 _ _), ext_under (ext_under M1.out.2.2 (Nat.le_refl _) hb2) (Nat.le_refl _) (below_1 _ _)⟩
    clear hb2 hra ho2 hf2
    unfold Mr.agg
    go_wp2_with (with_reducible refine wpList_store_new _ rfl 48 (.tmp 4) (.tmp 18) rfl _ _ rfl rfl (zM ra) (zM7 ra) (one7 _ _ _ _ _ _ _ _ _) ?_)
    go_loopg [6] 2 (fun gk v wr => ∃ t : Nat, v = .int .i64 (t : Int) ∧ 2 ≤ t + gk ∧ t ≤ 2 ∧ Hid (RM w wr A MA l w2.heap.size ra))
    case atStart => exact ⟨0, rfl, by omega, by omega, T2⟩
    case round =>
      obtain ⟨t, rfl, hgk, ht2, hT⟩ := hrel
      by_cases hlt : t < 2
      · have b3 : decide ((t : Int) < 2) = true := decide_eq_true (by omega)
        have b4 : decide (t < 2) = true := decide_eq_true hlt
        generalize w2.heap.size = g4 at *
        go_wp2_with fail
        refine (hp1.out MA mn mc wr hT.out.mine hmn hmle (by omega)).mono ?_; rintro e w4 ⟨hb4, r, rfl, hr, ho4, hf4⟩
        have R4 : Hid (r.v = m ∧ r.Rd w4) := by
          have hr' : r.v = m := hr
          exact ⟨hr', rd_of ho4 (by rw [hr']; exact hbd.out.1) (by rw [hr']; exact hbd.out.2)⟩
        have T4 : Hid (RM w w4 A MA l g4 ra) := hT.out.ext hb4
        have HO4 := Lib.hid (And.intro ho4 (And.intro hf4 hb4))
        have HS : Hid (∀ W, Below w4.heap.size w4 W → Calls Try.prog 30 #[r.agg, ra.agg] W fun e w' => e = .returned (.bool true) ∧ Below W.heap.size W w') := fun W hW =>
          rSame24_v r ra true W (R4.out.2.ext hW) (T4.out.rd.ext hW) (by rw [R4.out.1, R2.out.1]; exact sameM_self m)
        have hlt4 := T4.out.box.lt
        have da := (T4.out.box).cell 0; have db := (T4.out.box).cell 1; have dc := (T4.out.box).cell 2; have dd := (T4.out.box).cell 3; have de := (T4.out.box).cell 4; have df := (T4.out.box).cell 5; have dg := (T4.out.box).cell 6; simp only [Mr.cells, List.getElem?_toArray, List.getElem?_cons_zero, List.getElem?_cons_succ] at da db dc dd de df dg
        clear hb4 hr ho4 hf4
        unfold Mr.agg at *
        go_wp2_with (first | (with_reducible refine wpList_store_new _ rfl 48 (.tmp 7) (.tmp 27) rfl _ _ rfl rfl (zM r) (zM7 r) (one7 _ _ _ _ _ _ _ _ _) ?_) | (go_at_call 30; refine (HS.out _ (below_1 w4 _)).mono ?_; rintro e w5 ⟨rfl, hb5⟩; have T5 := Lib.hid ((T4.out.ext (below_1 w4 _)).ext hb5); have B5 : Hid (Below w4.heap.size w4 w5 ∧ Blk w5 w4.heap.size 48 (Mr.cells r)) := (by exact ⟨(below_1 w4 _).trans (hb5.mono (by simp)), (Blk.new w4 _ _).ext hb5⟩); clear hb5))
        have hsm := same_at l l MA A mn n mc cap w5 T5.out.mine T5.out.b hmn hn (by unfold maxLen; omega) (by unfold maxLen; omega)
        rw [eqB_self] at hsm
        refine hsm.mono ?_; rintro e w6 ⟨rfl, k6, rfl⟩
        have W6 : Hid (WI wr (w5.drewN k6) w4.heap.size r) := by
          have hb : Below w4.heap.size w4 (w5.drewN k6) := bdrewN B5.out.1 k6
          exact ⟨ByAt.of_own (HO4.out.1.ext hb), B5.out.2.drewN k6, ext_under HO4.out.2.2 (Nat.le_refl _) hb, HO4.out.2.2.size, fun k hk => HO4.out.2.1 k (by revert hk; cases r.A <;> simp [Value.ownBlock, blockOf])⟩
        have hrn : r.n ≤ 48 := by have h1 := R4.out.2.n.out; rw [R4.out.1] at h1; have := hbd.out.1; omega
        clear hsm hlt4 da db dc dd de df dg
        generalize w5.drewN k6 = w6 at *
        generalize w4.heap.size = g7 at *
        go_wp2
        generalize wr = Wt at *
        generalize gk = gq at *
        go_loopg [9] r.n (fun gk v wr => ∃ j : Nat, v = .int .i64 (j : Int) ∧ r.n ≤ j + gk ∧ j ≤ r.n ∧ Hid (WI Wt wr g7 r))
        case atStart => exact ⟨0, rfl, by omega, by omega, W6⟩
        case round =>
          obtain ⟨j, rfl, hgj, hjn, hI⟩ := hrel
          have c6 := hI.out.box.cell 6
          simp only [Mr.cells, List.getElem?_toArray, List.getElem?_cons_zero, List.getElem?_cons_succ] at c6
          by_cases hjl : j < r.n
          · have k0 : (0 : Int) ≤ (j : Int) := Int.natCast_nonneg _
            have k2 : (j : Int) < (r.n : Int) := by omega
            have k3 : decide (j < r.n) = true := decide_eq_true hjl
            rcases hI.out.by' with hz | ⟨g2, off2, cur, hA, hblk, hz⟩
            · omega
            · obtain ⟨z, hz⟩ := hz j hjl
              have hfr := hI.out.fr g2 (by rw [hA]; rfl)
              rw [hA] at c6
              have d0 : wr.cell? ⟨g2, off2 + j, none⟩ = some (.int .u8 z) := (hblk.cell _).trans hz
              have d1' := hblk.free (off2 + j)
              have HB := Lib.hid (And.intro hblk hfr)
              clear hblk hz hfr hA
              go_wp2
              go_roundg (gk - 1)
              case measure => omega
              case rel => exact ⟨j + 1, by go_num, by omega, by omega, hI.out.step HB.out.1 HB.out.2 _⟩
          · have k2 : ¬ (j : Int) < (r.n : Int) := by omega
            have k3 : decide (j < r.n) = false := decide_eq_false hjl
            have HT9 := Lib.hid (hT.out.ext hI.out.be)
            go_wp2
            go_roundg (gq - 1)
            case measure => omega
            case rel => exact ⟨t + 1, by go_num, by omega, by omega, HT9⟩
      · have b3 : decide ((t : Int) < 2) = false := decide_eq_false (by omega)
        have b4 : decide (t < 2) = false := decide_eq_false hlt
        go_wp2
        go_ret
        exact ⟨rfl, hT.out.be⟩
set_option maxRecDepth 100000 in
theorem lifted (os : Os) (started : os.Started) (H : Type) (enc : TypeId × Value → H) :
    ReturnsInHanded {} Try.checked os 6 .any (Rows.messageReadsSpec.pre6 enc Try.prog Try.f6 Rows.messageReadsRow.domain false) (Rows.messageReadsSpec.post enc Try.prog Try.f6 false true false false) := by
  refine returnsInHanded_of_change_sized (C := Try.checked) own started (by kernel_rfl) Try.func6
    (ChangeSpec.witness6 (enc := enc) (C := Try.checked) false ⟨#[], #[.slice none 0 0], []⟩ 8 (by kernel_rfl) (by kernel_rfl) (by kernel_rfl) (by kernel_rfl)) ?_
  intro W base args ds gs before hval0 hW hcnd hsz0 _
  have hval : ∀ (j : Nat) t v, Try.f6.params[j]? = some t → args[j]? = some v → Value.okWide Try.prog W .any base t v := hval0
  have hW' := hW
  obtain ⟨p, q, hA0, hV, rfl, hfz, hnd⟩ := hW
  have hA : DataW.TrodAll enc Try.prog W 0 (fun _ => true) true Try.f6.params.toList args.toList ds p := hA0
  have hsz : (DataW.weightsEach Try.prog (Try.f6.params.toList ++ []) (ds ++ gs)).all (· ≤ reachBytes) = true := hsz0
  rw [Try.params6] at hA hval hsz
  have hAll := hA
  obtain ⟨v0, vs0, d0, ds0, p0, q0, hargs, rfl, rfl, h0, r0⟩ := trodAll_cons hA
  obtain ⟨rfl, rfl, rfl⟩ := trodAll_nil r0
  obtain rfl : args = #[v0] := by cases args; simp_all
  obtain ⟨rfl, rfl⟩ := trodVars_none hV
  obtain ⟨b_A, b, b_cap, rfl, b_sl, b_ok, b_le, b_max, b_reach, b_nil⟩ := open_sl Try.underlying25 (c := 1) (by kernel_rfl) (by decide) opens_u8 (hval 0 25 v0 rfl rfl) h0 (light_of hsz (j := 0) rfl rfl)
  refine (walk b b_A b.length b_cap W b_sl rfl b_le).mono fun e W' ⟨he, bel⟩ => ?_
  subst he
  exact ⟨_, rfl, _, _, _, [], _, [], hW', trodAll_mk1 (shut_bool Try.underlying4 _), keep_args laidOut bel (by kernel_rfl) hAll, rfl, bel.frame _, fun h => by cases h⟩

theorem over : Rows.messageReadsRow.holds Try.pinned (OpenSpec.ofChange Rows.messageReadsSpec) :=
  OpenClaim.holds_of_wide 6 Try.f6 rfl rfl rfl rfl rfl rfl rfl ⟨rfl, rfl, rfl, rfl, rfl⟩ rfl rfl rfl rfl rfl (by kernel_rfl) Try.func6 (by kernel_rfl)
    (of_decide_eq_true (by kernel_rfl)) (by unfold Func.isWrapper; first | (rw [if_pos (by decide +kernel)]; kernel_rfl) | (rw [if_neg (by decide +kernel)]; exact ⟨rfl, rfl⟩))
    (fun os started H enc _ => lifted os started H enc)

theorem proved : Rows.MessageReadsSaid := over
#print axioms proved
end Go.Proofs.Ytoneechcclndaaa.lawMRd
