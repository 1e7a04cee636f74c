/- MessageKinds: a message that may be, of another kind, may be just if that has the same fields; with a field that its kind hasn't it may not be: whatever the input, the law returns true and leaves its argument as it was. -/
import Derived.Test.YtiommdidkhohgaaMsgD
import Derived.Deep.CutBlock
import Derived.ChangeMaps5
import Derived.Outline
import Derived.BigQuiet
import Derived.Deep.QuietTactic
import Derived.Deep.RegionWith
import Derived.Deep.RegionHeld3
import Derived.Deep.DrawnRows
import Derived.Deep.LoopGhost
import Derived.Deep.DeepCutAuto
import Derived.Laws.EntriesVeiled
namespace Go.Proofs.Ytiommdidkhohgaa.lawMK
open Go.RowKit Go.ChangeShapes Go.WideShapes Go.ChangeAt
set_option linter.unusedVariables false
set_option linter.unusedSimpArgs false
attribute [local go_sem ↓] Go.wp_at_zero Go.wp_at_succ
open Wire Word Bytes Go.Shelf Msg

def plainB (m : Ms) : Bool := m.width == 0 && (m.seq == 0 && ((m.bs.length : Int) == 0 && !m.last))
def wantB (kd : Nat) (m : Ms) : Bool := if kd = 2 ∨ kd = 5 then plainB m else if kd = 1 then m.seq == 0 && ((m.bs.length : Int) == 0 && !m.last) else if kd = 3 then m.width == 0 && ((m.bs.length : Int) == 0 && !m.last) else if kd = 4 then decide ((0 : Int) < (m.bs.length : Int)) else false
theorem may_cases {m : Ms} (h : mayB m = true) : (m.kind = 1 ∨ m.kind = 2 ∨ m.kind = 3 ∨ m.kind = 4 ∨ m.kind = 5) ∧ ∃ k, kkOf m.kind = some k ∧ mayK k m = true := by
  unfold mayB at h
  cases hk : kkOf m.kind with
  | none => rw [hk] at h; cases h
  | some k =>
    rw [hk] at h
    refine ⟨?_, k, rfl, h⟩
    rcases kk_cases hk with ⟨h, _⟩ | ⟨h, _⟩ | ⟨h, _⟩ | ⟨h, _⟩ | ⟨h, _⟩ <;> omega
theorem may_want (m : Ms) (kd : Nat) (h : mayB m = true) : mayB { m with kind := kd } = wantB kd m := by
  obtain ⟨hk, k, hk2, hm⟩ := may_cases h
  obtain ⟨kk, cl, ep, wd, sq, la, bs⟩ := m
  simp only at *
  rcases kk_cases hk2 with ⟨rfl, rfl⟩ | ⟨rfl, rfl⟩ | ⟨rfl, rfl⟩ | ⟨rfl, rfl⟩ | ⟨rfl, rfl⟩ <;> (
    by_cases h1 : kd = 1 ∨ kd = 2 ∨ kd = 3 ∨ kd = 4 ∨ kd = 5
    · rcases h1 with rfl | rfl | rfl | rfl | rfl <;> (
        rw [Bool.eq_iff_iff]
        cases la <;> (
          simp [mayB, mayK, inB, kkOf, wantB, plainB, -List.length_eq_zero_iff] at hm ⊢
          try omega))
    · have h2 : kkOf kd = none := by unfold kkOf; repeat rw [if_neg (by omega)]
      rw [mayB]
      simp only [h2, wantB]
      repeat rw [if_neg (by omega)])
def pM (m : Ms) (p : Nat) (nn : Int) : Ms := if p = 0 then { m with width := nn } else if p = 1 then { m with seq := nn } else if p = 2 then { m with last := true } else { m with bs := [1] }
def want2 (m : Ms) (p : Nat) : Bool := if p = 0 then m.kind == 1 else if p = 1 then m.kind == 3 || m.kind == 4 else m.kind == 4
theorem may_want2 (m : Ms) (p : Nat) (nn : Int) (h : mayB m = true) (h1 : 1 ≤ nn) (h2 : nn ≤ 1000) (hp : p < 4) : mayB (pM m p nn) = want2 m p := by
  obtain ⟨hk, k, hk2, hm⟩ := may_cases h
  obtain ⟨kk, cl, ep, wd, sq, la, bs⟩ := m
  simp only at *
  obtain rfl | rfl | rfl | rfl : p = 0 ∨ p = 1 ∨ p = 2 ∨ p = 3 := by omega
  all_goals (rcases kk_cases hk2 with ⟨rfl, rfl⟩ | ⟨rfl, rfl⟩ | ⟨rfl, rfl⟩ | ⟨rfl, rfl⟩ | ⟨rfl, rfl⟩ <;> (
    rw [Bool.eq_iff_iff]
    cases la <;> (
      simp [mayB, mayK, inB, kkOf, want2, pM, -List.length_eq_zero_iff] at hm ⊢
      try omega)))
theorem box_up {w w1 w2 : World} {t : TypeId} {cs : Array Value} (h : Hid (Blk w1 w.heap.size t cs ∧ Below w.heap.size w w1 ∧ w.heap.size < w1.heap.size)) (hb : Below w1.heap.size w1 w2) : Hid (Blk w2 w.heap.size t cs ∧ Below w.heap.size w w2 ∧ w.heap.size < w2.heap.size) :=
  ⟨h.out.1.ext hb, ext_under h.out.2.1 (Nat.le_refl _) hb, by have := hb.size; have := h.out.2.2; omega⟩
theorem may_g (r : Mr) (b : Bool) (w w1 : World) (hr : r.In w) (hb : mayB r.v = b) : Calls Try.prog 33 #[r.agg] w1 fun e w' => e = .returned (.bool b) ∧ Below w1.heap.size w1 w' := may_v r b w1 hb hr.kd hr.n
theorem num_eqs (z : Int) : ∃ u v : Int, IntKind.u64.wrap z = u ∧ u.tmod 1000 = v ∧ 0 ≤ v ∧ v < 1000 := by
  have h : 0 ≤ IntKind.u64.wrap z := by
    simp [IntKind.wrap, IntKind.bits, IntKind.signed]; omega
  exact ⟨_, _, rfl, rfl, Int.tmod_nonneg _ h, Int.tmod_lt_of_pos _ (by decide)⟩
theorem up4 {w w3 w4 : World} {g h : Nat} {t : TypeId} {cs ds : Array Value} {p : Prop} (H : Hid (Blk w3 g t cs ∧ Blk w3 h t ds ∧ Below w.heap.size w w3 ∧ p)) (hb : Below w3.heap.size w3 w4) : Hid (Blk w4 g t cs ∧ Blk w4 h t ds ∧ Below w.heap.size w w4 ∧ p) :=
  ⟨H.out.1.ext hb, H.out.2.1.ext hb, ext_under H.out.2.2.1 (Nat.le_refl _) hb, H.out.2.2.2⟩
def ocells (kd : Nat) (r : Mr) : Array Value := #[.int .u8 (kd : Int), .int .i64 r.v.client, .int .i64 r.v.epoch, .int .i64 r.v.width, .int .i64 r.v.seq, .bool r.v.last, .slice r.A r.n r.c]
set_option maxHeartbeats 8000000 in
set_option maxRecDepth 100000 in
theorem walk (r : Mr) (kd : Nat) (q z : Int) (w : World) (hr : r.In w) (hkd : kd ≤ 255) (hq0 : 0 ≤ q) :
    Calls Try.prog 11 #[r.agg, .int .u8 (kd : Int), .int .u8 q, .int .i64 z] w fun e w' => e = .returned (.bool true) ∧ Below w.heap.size w w' := by
  by_cases hl : 1000 < r.n
  · have d1 : decide ((1000 : Int) < (r.n : Int)) = true := decide_eq_true (by omega)
    clear hr
    unfold Mr.agg
    go_enter Try.func11, Try.ntmps11; go_wp2_with fail; refine (Msg.awake_any _).mono ?_; rintro e w1 ⟨rfl, hb1⟩; have HB1 := box_in hb1; clear hb1; have da := (HB1.out.1).cell 0; have db := (HB1.out.1).cell 1; have dc := (HB1.out.1).cell 2; have dd := (HB1.out.1).cell 3; have de := (HB1.out.1).cell 4; have df := (HB1.out.1).cell 5; have dg := (HB1.out.1).cell 6; simp only [List.getElem?_toArray, List.getElem?_cons_zero, List.getElem?_cons_succ] at da db dc dd de df dg
    go_wp2
    go_ret
    exact ⟨rfl, HB1.out.2.1⟩
  · have d1 : decide ((1000 : Int) < (r.n : Int)) = false := decide_eq_false (by omega)
    cases hm : mayB r.v with
    | false =>
      have hmay := Lib.hid fun W => may_g r false w W hr hm
      clear hr hm
      unfold Mr.agg at hmay ⊢
      go_enter Try.func11, Try.ntmps11; go_wp2_with fail; refine (Msg.awake_any _).mono ?_; rintro e w1 ⟨rfl, hb1⟩; have HB1 := box_in hb1; clear hb1; have da := (HB1.out.1).cell 0; have db := (HB1.out.1).cell 1; have dc := (HB1.out.1).cell 2; have dd := (HB1.out.1).cell 3; have de := (HB1.out.1).cell 4; have df := (HB1.out.1).cell 5; have dg := (HB1.out.1).cell 6; simp only [List.getElem?_toArray, List.getElem?_cons_zero, List.getElem?_cons_succ] at da db dc dd de df dg
      go_wp2_with (go_at_call 33; refine (hmay.out _).mono ?_; rintro e w2 ⟨rfl, hb2⟩)
      go_ret
      exact ⟨rfl, ext_under HB1.out.2.1 (Nat.le_refl _) hb2⟩
    | true =>
      have hmay := Lib.hid fun W => may_g r true w W hr hm
      have hmo : Hid (∀ W, Calls Try.prog 33 #[.agg #[.int .u8 (kd : Int), .int .i64 r.v.client, .int .i64 r.v.epoch, .int .i64 r.v.width, .int .i64 r.v.seq, .bool r.v.last, .slice r.A r.n r.c]] W fun e w' => e = .returned (.bool (wantB kd r.v)) ∧ Below W.heap.size W w') :=
        fun W => may_v ⟨{ r.v with kind := kd }, r.A, r.n, r.c⟩ (wantB kd r.v) W (may_want r.v kd hm) hkd hr.n
      have hn := hr.n
      have HR := Lib.hid (And.intro hr hm)
      have HN := Lib.hid hn
      clear hr hm hn
      unfold Mr.agg at hmay ⊢
      go_enter Try.func11, Try.ntmps11; go_wp2_with fail; refine (Msg.awake_any _).mono ?_; rintro e w1 ⟨rfl, hb1⟩; have HB1 := box_in hb1; clear hb1; have da := (HB1.out.1).cell 0; have db := (HB1.out.1).cell 1; have dc := (HB1.out.1).cell 2; have dd := (HB1.out.1).cell 3; have de := (HB1.out.1).cell 4; have df := (HB1.out.1).cell 5; have dg := (HB1.out.1).cell 6; simp only [List.getElem?_toArray, List.getElem?_cons_zero, List.getElem?_cons_succ] at da db dc dd de df dg
      go_upto_region 7 with (go_at_call 33; refine (hmay.out _).mono ?_; rintro e w2 ⟨rfl, hb2⟩; have HB2 := box_up HB1 hb2; clear hb2 da db dc dd de df dg; have da := (HB2.out.1).cell 0; have db := (HB2.out.1).cell 1; have dc := (HB2.out.1).cell 2; have dd := (HB2.out.1).cell 3; have de := (HB2.out.1).cell 4; have df := (HB2.out.1).cell 5; have dg := (HB2.out.1).cell 6; simp only [List.getElem?_toArray, List.getElem?_cons_zero, List.getElem?_cons_succ] at da db dc dd de df dg)
      have HB3 : Hid (Blk (w2.alloc (.cells (ocells kd r) 56)) w.heap.size 56 (Mr.cells r) ∧ Blk (w2.alloc (.cells (ocells kd r) 56)) w2.heap.size 56 (ocells kd r) ∧ Below w.heap.size w (w2.alloc (.cells (ocells kd r) 56)) ∧ w.heap.size < w2.heap.size) :=
        ⟨HB2.out.1.alloc _, Blk.new _ _ _, HB2.out.2.1.alloc HB2.out.2.1.size _, HB2.out.2.2⟩
      unfold ocells Mr.cells at HB3
      clear da db dc dd de df dg
      generalize w2.alloc (.cells #[.int .u8 (kd : Int), .int .i64 r.v.client, .int .i64 r.v.epoch, .int .i64 r.v.width, .int .i64 r.v.seq, .bool r.v.last, .slice r.A r.n r.c] 56) = w3 at *
      generalize w2.heap.size = gO at *
      have da := (HB3.out.1).cell 0; have db := (HB3.out.1).cell 1; have dc := (HB3.out.1).cell 2; have dd := (HB3.out.1).cell 3; have de := (HB3.out.1).cell 4; have df := (HB3.out.1).cell 5; have dg := (HB3.out.1).cell 6; simp only [List.getElem?_toArray, List.getElem?_cons_zero, List.getElem?_cons_succ] at da db dc dd de df dg
      have oa := (HB3.out.2.1).cell 0; have ob := (HB3.out.2.1).cell 1; have oc := (HB3.out.2.1).cell 2; have od := (HB3.out.2.1).cell 3; have oe := (HB3.out.2.1).cell 4; have of := (HB3.out.2.1).cell 5; have og := (HB3.out.2.1).cell 6; simp only [List.getElem?_toArray, List.getElem?_cons_zero, List.getElem?_cons_succ] at oa ob oc od oe of og
      obtain ⟨b1, hb1⟩ : ∃ b, (r.v.width == 0) = b := ⟨_, rfl⟩
      obtain ⟨b2, hb2⟩ : ∃ b, (r.v.seq == 0) = b := ⟨_, rfl⟩
      obtain ⟨b3, hb3⟩ : ∃ b, ((r.n : Int) == 0) = b := ⟨_, rfl⟩
      have hb4 : (r.n == 0) = b3 := by rw [← hb3, Bool.eq_iff_iff]; simp
      have hb5 : decide ((0 : Int) < (r.n : Int)) = !b3 := by rw [← hb3, Bool.eq_iff_iff]; simp; omega
      have hb6 : decide (0 < r.n) = !b3 := by rw [← hb3, Bool.eq_iff_iff]; simp; omega
      have HP : Hid (plainB r.v = (b1 && (b2 && (b3 && !r.v.last)))) := by rw [Hid, plainB, ← HN.out, hb1, hb2, hb3]
      have HWT : Hid (wantB kd r.v = if kd = 2 ∨ kd = 5 then (b1 && (b2 && (b3 && !r.v.last))) else if kd = 1 then b2 && (b3 && !r.v.last) else if kd = 3 then b1 && (b3 && !r.v.last) else if kd = 4 then !b3 else false) := by rw [Hid, wantB, HP.out, ← HN.out, hb1, hb2, hb3, hb5]
      go_cut [10] (fun s10 wx => s10 = .bool (b1 && (b2 && (b3 && !r.v.last))) ∧ wx = w3)
      case first =>
        cases b1 <;> cases b2 <;> cases b3 <;> (
          go_wp2_with fail
          go_meet
          exact ⟨by simp, rfl⟩)
      case rest =>
        obtain ⟨rfl, h9⟩ := hcut; replace h9 := h9.symm; subst h9
        go_upto_block 0 with fail
        generalize (b1 && (b2 && (b3 && !r.v.last))) = bp at *
        go_cut [11] (fun s11 wx => s11 = .bool (wantB kd r.v) ∧ wx = w3)
        case first =>
          by_cases k2 : kd = 2
          · subst k2
            go_wp2_with fail
            go_meet
            exact ⟨by rw [HWT.out]; simp, rfl⟩
          by_cases k5 : kd = 5
          · subst k5
            go_wp2_with fail
            go_meet
            exact ⟨by rw [HWT.out]; simp, rfl⟩
          have k2' : ((kd : Int) == 2) = false := by simp; omega
          have k5' : ((kd : Int) == 5) = false := by simp; omega
          by_cases k1 : kd = 1
          · subst k1
            cases b2 <;> cases b3 <;> (
              go_wp2_with fail
              go_meet
              exact ⟨by rw [HWT.out]; simp, rfl⟩)
          have k1' : ((kd : Int) == 1) = false := by simp; omega
          by_cases k3 : kd = 3
          · subst k3
            cases b1 <;> cases b3 <;> (
              go_wp2_with fail
              go_meet
              exact ⟨by rw [HWT.out]; simp, rfl⟩)
          have k3' : ((kd : Int) == 3) = false := by simp; omega
          by_cases k4 : kd = 4
          · subst k4
            go_wp2_with fail
            go_meet
            exact ⟨by rw [HWT.out]; simp, rfl⟩
          have k4' : ((kd : Int) == 4) = false := by simp; omega
          go_wp2_with fail
          go_meet
          exact ⟨by rw [HWT.out, if_neg (by omega), if_neg k1, if_neg k3, if_neg k4], rfl⟩
        case rest =>
          obtain ⟨rfl, h9⟩ := hcut; replace h9 := h9.symm; subst h9
          clear HWT HP hb1 hb2 hb3 hb4 hb5 hb6
          obtain ⟨u, v, hu, hv, hn0, hn1⟩ := num_eqs z
          obtain ⟨nn, hnn⟩ : ∃ nn : Int, nn = 1 + v := ⟨_, rfl⟩
          have e3 : IntKind.i64.wrap v = v := IntWalk.i64_in _ (by omega)
          have e4 : IntKind.i64.wrap (1 + v) = nn := by rw [IntWalk.i64_in _ (by omega), hnn]
          have hbb : (wantB kd r.v != wantB kd r.v) = false := by simp
          clear oa ob oc od oe of og
          have oa := (HB3.out.2.1).cell 0; have ob := (HB3.out.2.1).cell 1; have oc := (HB3.out.2.1).cell 2; have od := (HB3.out.2.1).cell 3; have oe := (HB3.out.2.1).cell 4; have of := (HB3.out.2.1).cell 5; have og := (HB3.out.2.1).cell 6; simp only [List.getElem?_toArray, List.getElem?_cons_zero, List.getElem?_cons_succ] at oa ob oc od oe of og
          generalize wantB kd r.v = wb at *
          go_upto_block 1 with (go_at_call 33; refine (hmo.out _).mono ?_; rintro e w4 ⟨rfl, hb4⟩; have HB4 := up4 HB3 hb4; clear hb4 da db dc dd de df dg oa ob oc od oe of og; have da := (HB4.out.1).cell 0; have db := (HB4.out.1).cell 1; have dc := (HB4.out.1).cell 2; have dd := (HB4.out.1).cell 3; have de := (HB4.out.1).cell 4; have df := (HB4.out.1).cell 5; have dg := (HB4.out.1).cell 6; simp only [List.getElem?_toArray, List.getElem?_cons_zero, List.getElem?_cons_succ] at da db dc dd de df dg)
          subst hnn
          obtain ⟨c1, hc1⟩ : ∃ b, ((r.v.kind : Int) == 1) = b := ⟨_, rfl⟩
          obtain ⟨c3, hc3⟩ : ∃ b, ((r.v.kind : Int) == 3) = b := ⟨_, rfl⟩
          obtain ⟨c4, hc4⟩ : ∃ b, ((r.v.kind : Int) == 4) = b := ⟨_, rfl⟩
          have HC : Hid ((r.v.kind == 1) = c1 ∧ (r.v.kind == 3) = c3 ∧ (r.v.kind == 4) = c4) := ⟨by rw [← hc1, Bool.eq_iff_iff]; simp; omega, by rw [← hc3, Bool.eq_iff_iff]; simp; omega, by rw [← hc4, Bool.eq_iff_iff]; simp; omega⟩
          have hw := fun (p : Nat) (hp : p < 4) => may_want2 r.v p (1 + v) HR.out.2 (by omega) (by omega) hp
          have hp0 : Hid (∀ W, Calls Try.prog 33 #[.agg #[.int .u8 (r.v.kind : Int), .int .i64 r.v.client, .int .i64 r.v.epoch, .int .i64 (1 + v), .int .i64 r.v.seq, .bool r.v.last, .slice r.A r.n r.c]] W fun e w' => e = .returned (.bool c1) ∧ Below W.heap.size W w') :=
            fun W => may_v ⟨{ r.v with width := 1 + v }, r.A, r.n, r.c⟩ c1 W (by rw [← HC.out.1]; exact hw 0 (by decide)) HR.out.1.kd HR.out.1.n
          have hp1 : Hid (∀ W, Calls Try.prog 33 #[.agg #[.int .u8 (r.v.kind : Int), .int .i64 r.v.client, .int .i64 r.v.epoch, .int .i64 r.v.width, .int .i64 (1 + v), .bool r.v.last, .slice r.A r.n r.c]] W fun e w' => e = .returned (.bool (c3 || c4)) ∧ Below W.heap.size W w') :=
            fun W => may_v ⟨{ r.v with seq := 1 + v }, r.A, r.n, r.c⟩ (c3 || c4) W (by rw [← HC.out.2.1, ← HC.out.2.2]; exact hw 1 (by decide)) HR.out.1.kd HR.out.1.n
          have hp2 : Hid (∀ W, Calls Try.prog 33 #[.agg #[.int .u8 (r.v.kind : Int), .int .i64 r.v.client, .int .i64 r.v.epoch, .int .i64 r.v.width, .int .i64 r.v.seq, .bool true, .slice r.A r.n r.c]] W fun e w' => e = .returned (.bool c4) ∧ Below W.heap.size W w') :=
            fun W => may_v ⟨{ r.v with last := true }, r.A, r.n, r.c⟩ c4 W (by rw [← HC.out.2.2]; exact hw 2 (by decide)) HR.out.1.kd HR.out.1.n
          have hp3 : Hid (∀ A W, Calls Try.prog 33 #[.agg #[.int .u8 (r.v.kind : Int), .int .i64 r.v.client, .int .i64 r.v.epoch, .int .i64 r.v.width, .int .i64 r.v.seq, .bool r.v.last, .slice A 1 1]] W fun e w' => e = .returned (.bool c4) ∧ Below W.heap.size W w') :=
            fun A W => may_v ⟨{ r.v with bs := [1] }, A, 1, 1⟩ c4 W (by rw [← HC.out.2.2]; exact hw 3 (by decide)) HR.out.1.kd rfl
          clear hw
          have hlt4 : w.heap.size < w4.heap.size := HB4.out.1.lt
          have hne4 : w.heap.size ≠ w4.heap.size := by omega
          have hne5 : w.heap.size ≠ w4.heap.size + 1 := by omega
          have hq9 : q.tmod 4 = q % 4 := Int.tmod_eq_emod_of_nonneg hq0
          obtain hq | hq | hq | hq : q % 4 = 0 ∨ q % 4 = 1 ∨ q % 4 = 2 ∨ q % 4 = 3 := by omega
          · rw [hq] at hq9
            go_wp2_with (go_at_call 33; refine (hp0.out _).mono ?_; rintro e w5 ⟨rfl, hb5⟩)
            go_ret
            exact ⟨by simp, two_up HB4.out.2.2.1 hb5⟩
          · rw [hq] at hq9
            cases c3 with
            | true =>
              go_wp2_with (go_at_call 33; refine (hp1.out _).mono ?_; rintro e w5 ⟨rfl, hb5⟩)
              go_ret
              exact ⟨by simp, two_up HB4.out.2.2.1 hb5⟩
            | false =>
              go_wp2_with (go_at_call 33; refine (hp1.out _).mono ?_; rintro e w5 ⟨rfl, hb5⟩)
              go_ret
              exact ⟨by simp, two_up HB4.out.2.2.1 hb5⟩
          · rw [hq] at hq9
            go_wp2_with (go_at_call 33; refine (hp2.out _).mono ?_; rintro e w5 ⟨rfl, hb5⟩)
            go_ret
            exact ⟨by simp, two_up HB4.out.2.2.1 hb5⟩
          · rw [hq] at hq9
            go_wp2_with (go_at_call 33; refine (hp3.out _ _).mono ?_; rintro e w5 ⟨rfl, hb5⟩)
            go_ret
            exact ⟨by simp, ext_under HB4.out.2.2.1 (Nat.le_refl _) (((below_1 w4 _).alloc (by simp) _).trans (hb5.mono (by simp; omega)))⟩
theorem u8_wf {z : Int} (h : (Lit.int .u8 z).wf = true) : 0 ≤ z ∧ z ≤ 255 := by
  simpa [Lit.wf, IntKind.min, IntKind.max, IntKind.signed, IntKind.bits] using h
theorem walk' (r : Mr) (kd q z : Int) (w : World) (hr : r.In w) (hkd : (Lit.int .u8 kd).wf = true) (hq : (Lit.int .u8 q).wf = true) :
    Calls Try.prog 11 #[r.agg, .int .u8 kd, .int .u8 q, .int .i64 z] w fun e w' => e = .returned (.bool true) ∧ Below w.heap.size w w' := by
  have h1 := u8_wf hkd
  have h2 := u8_wf hq
  obtain ⟨k, rfl⟩ : ∃ k : Nat, kd = (k : Int) := ⟨kd.toNat, by omega⟩
  exact walk r k q z w hr (by omega) h2.1
set_option maxRecDepth 100000 in
theorem lifted (os : Os) (started : os.Started) (H : Type) (enc : TypeId × Value → H) :
    ReturnsInHanded {} Try.checked os 11 .any (Rows.messageKindsSpec.pre6 enc Try.prog Try.f11 Rows.messageKindsRow.domain false) (Rows.messageKindsSpec.post enc Try.prog Try.f11 false true false false) := by
  refine returnsInHanded_of_change_sized (C := Try.checked) own started (by kernel_rfl) Try.func11
    (ChangeSpec.witness6 (enc := enc) (C := Try.checked) false ⟨#[], #[.agg #[.int .u8 0, .int .i64 0, .int .i64 0, .int .i64 0, .int .i64 0, .bool false, .slice none 0 0], .int .u8 0, .int .u8 0, .int .i64 0], []⟩ 8 (by kernel_rfl) (by kernel_rfl) (by kernel_rfl) (by kernel_rfl)) ?_
  intro W base args ds gs before hval0 hW hcnd hsz0 _
  have hval : ∀ (j : Nat) t v, Try.f11.params[j]? = some t → args[j]? = some v → Value.okWide Try.prog W .any base t v := hval0
  have hW' := hW
  obtain ⟨p, q, hA0, hV, rfl, hfz, hnd⟩ := hW
  have hA : DataW.TrodAll enc Try.prog W 0 (fun _ => true) true Try.f11.params.toList args.toList ds p := hA0
  have hsz : (DataW.weightsEach Try.prog (Try.f11.params.toList ++ []) (ds ++ gs)).all (· ≤ reachBytes) = true := hsz0
  rw [Try.params11] at hA hval hsz
  have hAll := hA
  obtain ⟨v0, vs0, d0, ds0, p0, q0, hargs, rfl, rfl, h0, r0⟩ := trodAll_cons hA
  obtain ⟨v1, vs1, d1, ds1, p1, q1, rfl, rfl, rfl, h1, r1⟩ := trodAll_cons r0
  obtain ⟨v2, vs2, d2, ds2, p2, q2, rfl, rfl, rfl, h2, r2⟩ := trodAll_cons r1
  obtain ⟨v3, vs3, d3, ds3, p3, q3, rfl, rfl, rfl, h3, r3⟩ := trodAll_cons r2
  obtain ⟨rfl, rfl, rfl⟩ := trodAll_nil r3
  obtain rfl : args = #[v0, v1, v2, v3] := by cases args; simp_all
  obtain ⟨rfl, rfl⟩ := trodVars_none hV
  obtain ⟨m, rfl, m_in⟩ := open_msg (hval 0 56 v0 rfl rfl) h0 (light_of hsz (j := 0) rfl rfl)
  obtain ⟨a, rfl, _, _, a_wf⟩ := open_int Try.underlying5 (hval 1 5 v1 rfl rfl) h1
  obtain ⟨b, rfl, _, _, b_wf⟩ := open_int Try.underlying5 (hval 2 5 v2 rfl rfl) h2
  obtain ⟨n, rfl, _, _, n_wf⟩ := open_int Try.underlying3 (hval 3 3 v3 rfl rfl) h3
  refine (walk' m a b n W m_in a_wf b_wf).mono fun e W' ⟨he, bel⟩ => ?_
  subst he
  exact ⟨_, rfl, _, _, _, [], _, [], hW', trodAll_mk1 (shut_bool Try.underlying4 _), keep_args laidOut bel (by kernel_rfl) hAll, rfl, bel.frame _, fun h => by cases h⟩

theorem over : Rows.messageKindsRow.holds Try.pinned (OpenSpec.ofChange Rows.messageKindsSpec) :=
  OpenClaim.holds_of_wide 11 Try.f11 rfl rfl rfl rfl rfl rfl rfl ⟨rfl, rfl, rfl, rfl, rfl⟩ rfl rfl rfl rfl rfl (by kernel_rfl) Try.func11 (by kernel_rfl)
    (of_decide_eq_true (by kernel_rfl)) (by unfold Func.isWrapper; first | (rw [if_pos (by decide +kernel)]; kernel_rfl) | (rw [if_neg (by decide +kernel)]; exact ⟨rfl, rfl⟩))
    (fun os started H enc _ => lifted os started H enc)

theorem proved : Rows.MessageKindsSaid := over
#print axioms proved
end Go.Proofs.Ytiommdidkhohgaa.lawMK
