/- MessageForms: any message has the form that the chapter says, or none; any two are the same, or not; it stays: whatever the input, the law returns true and leaves its arguments as they were. -/
import Derived.Test.YtoneechcclndaaaRMsgD
import Derived.Test.YtoneechcclndaaaMsgS
import Derived.Test.YtoneechcclndaaaUni
import Derived.ChangeMaps5
import Derived.Outline
import Derived.BigQuiet
import Derived.Deep.QuietTactic
import Derived.Deep.RegionWith
import Derived.Deep.RegionHeld3
import Derived.Deep.DrawnRows
import Derived.Deep.LoopGhost
import Derived.Deep.DeepCutAuto
import Derived.Laws.EntriesVeiled
namespace Go.Proofs.Ytoneechcclndaaa.lawMF
open Go.RowKit Go.ChangeShapes Go.WideShapes Go.ChangeAt
set_option linter.unusedVariables false
set_option linter.unusedSimpArgs false
attribute [local go_sem ↓] Go.wp_at_zero Go.wp_at_succ
open Wire Word Bytes Go.Shelf Msg lawTorn

theorem bcell {W w1 : World} (hb : Below W.heap.size W w1) : (∀ b o, b < W.heap.size → w1.cell? ⟨b, o, none⟩ = W.cell? ⟨b, o, none⟩) ∧ (∀ b o, b < W.heap.size → w1.frozen? ⟨b, o, none⟩ = W.frozen? ⟨b, o, none⟩) :=
  ⟨fun b o h => hb.cell (p := ⟨b, o, none⟩) h, fun b o h => hb.frozen (p := ⟨b, o, none⟩) h⟩
theorem zM7 (r : Mr) : (#[.int .u8 0, .int .i64 0, .int .i64 0, .int .i64 0, .int .i64 0, .bool false, .slice none 0 0] : Array Value).size = (#[.int .u8 (r.v.kind : Int), .int .i64 r.v.client, .int .i64 r.v.epoch, .int .i64 r.v.width, .int .i64 r.v.seq, .bool r.v.last, .slice r.A r.n r.c] : Array Value).size := by simp
/-- what stands: the two that came in, boxed -/
structure FB (w W : World) (r q : Mr) : Prop where
  br : Blk W w.heap.size 48 (Mr.cells r)
  bq : Blk W (w.heap.size + 1) 48 (Mr.cells q)
  rr : r.Rd W
  qr : q.Rd W
  be : Below w.heap.size w W
theorem FB.ext {w W W' : World} {r q : Mr} (h : FB w W r q) (hb : Below W.heap.size W W') : FB w W' r q := ⟨h.br.ext hb, h.bq.ext hb, h.rr.ext hb, h.qr.ext hb, ext_under h.be (Nat.le_refl _) hb⟩
structure FC (w W : World) (r q c : Mr) (g : Nat) : Prop where
  b : FB w W r q
  bc : Blk W g 48 (Mr.cells c)
  cr : c.Rd W
theorem FC.ext {w W W' : World} {r q c : Mr} {g : Nat} (h : FC w W r q c g) (hb : Below W.heap.size W W') : FC w W' r q c g := ⟨h.b.ext hb, h.bc.ext hb, h.cr.ext hb⟩
theorem upM_k {m : Ms} {k : Kk} (hk : kkOf m.kind = some k) : upM m = (mayB m && k.up) := by unfold upM; rw [hk]
set_option maxHeartbeats 8000000 in
set_option maxRecDepth 100000 in
theorem walk (r q : Mr) (w : World) (hr : r.In w) (hq : q.In w) : Calls Try.prog 7 #[r.agg, q.agg] w fun e w' => e = .returned (.bool true) ∧ Below w.heap.size w w' := by
  have HI := Lib.hid (And.intro hr hq)
  clear hr hq
  by_cases h1 : 1000 < r.n
  · have d1 : decide ((1000 : Int) < (r.n : Int)) = true := decide_eq_true (by omega)
    unfold Mr.agg
    go_enter Try.func7, Try.ntmps7
    go_wp2
    go_ret
    exact ⟨rfl, (by repeat (first | exact Below.refl _ _ | assumption | refine Below.drew ?_ | refine bdrewN ?_ _ | refine Below.alloc ?_ (by simp; try omega) _ | refine Below.setCell ?_ (by simp; try omega) _))⟩
  · have d1 : decide ((1000 : Int) < (r.n : Int)) = false := decide_eq_false (by omega)
    by_cases h2 : 1000 < q.n
    · have d2 : decide ((1000 : Int) < (q.n : Int)) = true := decide_eq_true (by omega)
      unfold Mr.agg
      go_enter Try.func7, Try.ntmps7
      go_wp2
      go_ret
      exact ⟨rfl, (by repeat (first | exact Below.refl _ _ | assumption | refine Below.drew ?_ | refine bdrewN ?_ _ | refine Below.alloc ?_ (by simp; try omega) _ | refine Below.setCell ?_ (by simp; try omega) _))⟩
    · have d2 : decide ((1000 : Int) < (q.n : Int)) = false := decide_eq_false (by omega)
      have HR : Hid (r.Rd w ∧ q.Rd w) := ⟨HI.out.1.rd (by omega), HI.out.2.rd (by omega)⟩
      have T0 : Hid (FB w ((w.alloc (.cells (Mr.cells r) 48)).alloc (.cells (Mr.cells q) 48)) r q) := by
        refine ⟨(Blk.new w _ _).alloc _, ?_, (HR.out.1.ext (below_1 _ _)).ext (below_1 _ _), (HR.out.2.ext (below_1 _ _)).ext (below_1 _ _), ext_under (below_1 _ _) (Nat.le_refl _) (below_1 _ _)⟩
        have h := Blk.new (w.alloc (.cells (Mr.cells r) 48)) 48 (Mr.cells q)
        rwa [World.size_alloc] at h
      have hcp := Lib.hid fun W h => rcopy24_any r W h
      have hp2 := Lib.hid fun W h => rprint24_any r W h
      have hmay := Lib.hid fun W => rmay24_any r W HI.out.1.kd HI.out.1.n
      unfold Mr.agg at hcp hp2 hmay
      clear h1 h2
      unfold Mr.agg
      go_enter Try.func7, Try.ntmps7
      go_wp2_with fail
      refine (hcp.out _ T0.out.rr).mono ?_; rintro e w3 ⟨hb3, rc, rfl, hrc, hrd3⟩
      have T3 : Hid (FC w (w3.alloc (.cells (Mr.cells rc) 48)) r q rc w3.heap.size) := ⟨(T0.out.ext hb3).ext (below_1 _ _), Blk.new _ _ _, hrd3.ext (below_1 _ _)⟩
      have HC : Hid (rc.v = r.v) := hrc
      have hlt := (T0.out.ext hb3).br.lt
      have hlt2 := (T0.out.ext hb3).bq.lt
      have da := ((T0.out.ext hb3).br).cell 0; have db := ((T0.out.ext hb3).br).cell 1; have dc := ((T0.out.ext hb3).br).cell 2; have dd := ((T0.out.ext hb3).br).cell 3; have de := ((T0.out.ext hb3).br).cell 4; have df := ((T0.out.ext hb3).br).cell 5; have dg := ((T0.out.ext hb3).br).cell 6; simp only [Mr.cells, List.getElem?_toArray, List.getElem?_cons_zero, List.getElem?_cons_succ] at da db dc dd de df dg
      clear hb3 hrc hrd3
      unfold Mr.agg
      go_wp2_with (with_reducible refine wpList_store_new _ rfl 48 (.tmp 5) (.tmp 23) rfl _ _ rfl rfl (zM rc) (zM7 rc) (one7 _ _ _ _ _ _ _ _ _) ?_)
      have hp1 := print_any rc _ T3.out.cr
      rw [HC.out] at hp1
      have hp2' := hp2
      obtain ⟨X, hX⟩ : ∃ X, printM r.v = X := ⟨_, rfl⟩
      rw [hX] at hp1
      have hp3 : Hid (∀ W, r.Rd W → Calls Try.prog 33 #[.agg #[.int .u8 (r.v.kind : Int), .int .i64 r.v.client, .int .i64 r.v.epoch, .int .i64 r.v.width, .int .i64 r.v.seq, .bool r.v.last, .slice r.A r.n r.c]] W (RetPut W X)) := fun W h => hX ▸ hp2.out W h
      clear hp2 hp2' hX
      obtain ⟨p, er⟩ := X
      refine hp1.mono ?_; rintro e w4 ⟨hb4, PA, pn, pc, rfl, ho4, hf4⟩
      have T4 := Lib.hid (T3.out.ext hb4)
      have HO4 := Lib.hid ho4
      obtain ⟨A0, n0, c0, hv0, hpn, hple, hpmx, _⟩ := ho4.form
      cases hv0
      clear da db dc dd de df dg
      clear hb4 ho4 hf4 hp1 T3 T0 hlt hlt2
      generalize w3.heap.size = g5 at *
      have da := (T4.out.b.br).cell 0; have db := (T4.out.b.br).cell 1; have dc := (T4.out.b.br).cell 2; have dd := (T4.out.b.br).cell 3; have de := (T4.out.b.br).cell 4; have df := (T4.out.b.br).cell 5; have dg := (T4.out.b.br).cell 6; simp only [Mr.cells, List.getElem?_toArray, List.getElem?_cons_zero, List.getElem?_cons_succ] at da db dc dd de df dg
      go_wp2_with fail
      refine (hp3.out _ T4.out.b.rr).mono ?_; rintro e w5 ⟨hb5, QA, qn, qc, rfl, ho5, hf5⟩
      have T5 := Lib.hid (T4.out.ext hb5)
      have HO5 : Hid (OwnA w5 5 1 encB (.slice PA pn pc) p ∧ OwnA w5 5 1 encB (.slice QA qn qc) p) := ⟨HO4.out.ext hb5, ho5⟩
      obtain ⟨A0, n0, c0, hv0, hqn, hqle, hqmx, _⟩ := ho5.form
      cases hv0
      clear da db dc dd de df dg
      clear hb5 ho5 hf5 HO4 T4
      have da := (T5.out.b.br).cell 0; have db := (T5.out.b.br).cell 1; have dc := (T5.out.b.br).cell 2; have dd := (T5.out.b.br).cell 3; have de := (T5.out.b.br).cell 4; have df := (T5.out.b.br).cell 5; have dg := (T5.out.b.br).cell 6; simp only [Mr.cells, List.getElem?_toArray, List.getElem?_cons_zero, List.getElem?_cons_succ] at da db dc dd de df dg
      go_wp2_with fail
      refine (hmay.out _).mono ?_; rintro e w6 ⟨rfl, hb6⟩
      have T6 := Lib.hid (T5.out.ext hb6)
      have HO6 : Hid (OwnA w6 5 1 encB (.slice PA pn pc) p ∧ OwnA w6 5 1 encB (.slice QA qn qc) p) := ⟨HO5.out.1.ext hb6, HO5.out.2.ext hb6⟩
      clear da db dc dd de df dg
      clear hb6 HO5 T5
      have da := (T6.out.b.br).cell 0; have db := (T6.out.b.br).cell 1; have dc := (T6.out.b.br).cell 2; have dd := (T6.out.b.br).cell 3; have de := (T6.out.b.br).cell 4; have df := (T6.out.b.br).cell 5; have dg := (T6.out.b.br).cell 6; simp only [Mr.cells, List.getElem?_toArray, List.getElem?_cons_zero, List.getElem?_cons_succ] at da db dc dd de df dg
      have hup : Hid (upM r.v = (mayB r.v && (((r.v.kind : Int) == 1) || ((r.v.kind : Int) == 2) || ((r.v.kind : Int) == 3)))) := by
        rw [Hid]
        cases hk : kkOf r.v.kind with
        | none =>
          have h := kk_none hk
          have e1 : ((r.v.kind : Int) == 1) = false := by simp; omega
          have e2 : ((r.v.kind : Int) == 2) = false := by simp; omega
          have e3 : ((r.v.kind : Int) == 3) = false := by simp; omega
          unfold upM; rw [hk, e1, e2, e3]; rfl
        | some k =>
          rw [upM_k hk]
          rcases kk_cases hk with ⟨h, rfl⟩ | ⟨h, rfl⟩ | ⟨h, rfl⟩ | ⟨h, rfl⟩ | ⟨h, rfl⟩ <;> rw [h] <;> rfl
      obtain ⟨b0, hb0⟩ : ∃ b, mayB r.v = b := ⟨_, rfl⟩
      obtain ⟨b1, hb1⟩ : ∃ b, ((r.v.kind : Int) == 1) = b := ⟨_, rfl⟩
      obtain ⟨b2, hb2⟩ : ∃ b, ((r.v.kind : Int) == 2) = b := ⟨_, rfl⟩
      obtain ⟨b3, hb3⟩ : ∃ b, ((r.v.kind : Int) == 3) = b := ⟨_, rfl⟩
      have HB0 := Lib.hid hb0
      rw [hb0, hb1, hb2, hb3] at hup
      rw [hb0]
      clear hb0
      go_upto_region 7 with fail
      go_cut [11] (fun s11 wx => s11 = .bool (upM r.v) ∧ wx = w6)
      case first =>
        cases b0 <;> cases b1 <;> cases b2 <;> cases b3 <;> (
          go_wp2_with fail
          go_meet
          exact ⟨by rw [hup.out]; rfl, rfl⟩)
      case rest =>
        obtain ⟨rfl, rfl⟩ := hcut
        clear hb1 hb2 hb3
        have hup2 := hup
        clear hup
        generalize hu : upM r.v = up at *
        have HU := Lib.hid hu
        clear hu
        have xa := (T6.out.b.bq).cell 0; have xb := (T6.out.b.bq).cell 1; have xc := (T6.out.b.bq).cell 2; have xd := (T6.out.b.bq).cell 3; have xe := (T6.out.b.bq).cell 4; have xf := (T6.out.b.bq).cell 5; have xg := (T6.out.b.bq).cell 6; simp only [Mr.cells, List.getElem?_toArray, List.getElem?_cons_zero, List.getElem?_cons_succ] at xa xb xc xd xe xf xg
        have ya := (T6.out.bc).cell 0; have yb := (T6.out.bc).cell 1; have yc := (T6.out.bc).cell 2; have yd := (T6.out.bc).cell 3; have ye := (T6.out.bc).cell 4; have yf := (T6.out.bc).cell 5; have yg := (T6.out.bc).cell 6; simp only [Mr.cells, List.getElem?_toArray, List.getElem?_cons_zero, List.getElem?_cons_succ] at ya yb yc yd ye yf yg
        have z1 := T6.out.b.br.lt
        have z2 := T6.out.b.bq.lt
        have z3 := T6.out.bc.lt
        have hF1 : ∀ W, Below wc.heap.size wc W → Calls Try.prog 20 #[.slice PA pn pc, .slice QA qn qc] W fun e w' => e = .returned (.bool true) ∧ Below W.heap.size W w' := fun W hW => by
          have h := same_at p p PA QA pn qn pc qc W ((HO6.out.1.sl encB_len).ext hW) ((HO6.out.2.sl encB_len).ext hW) hpn hqn (Nat.le_trans hple hpmx) (Nat.le_trans hqle hqmx)
          rw [eqB_self] at h
          exact h.mono fun e w' ⟨he, k, hk⟩ => ⟨he, by rw [hk]; exact bdrewN (Below.refl _ _) k⟩
        have hF2 : ∀ W, Below wc.heap.size wc W → Calls Try.prog 30 #[.agg #[.int .u8 (rc.v.kind : Int), .int .i64 rc.v.client, .int .i64 rc.v.epoch, .int .i64 rc.v.width, .int .i64 rc.v.seq, .bool rc.v.last, .slice rc.A rc.n rc.c], .agg #[.int .u8 (r.v.kind : Int), .int .i64 r.v.client, .int .i64 r.v.epoch, .int .i64 r.v.width, .int .i64 r.v.seq, .bool r.v.last, .slice r.A r.n r.c]] W fun e w' => e = .returned (.bool true) ∧ Below W.heap.size W w' := fun W hW =>
          rSame24_v rc r true W (T6.out.cr.ext hW) (T6.out.b.rr.ext hW) (by rw [HC.out]; exact sameM_self _)
        have hF3 : ∀ W, Below wc.heap.size wc W → Calls Try.prog 35 #[.agg #[.int .u8 (rc.v.kind : Int), .int .i64 rc.v.client, .int .i64 rc.v.epoch, .int .i64 rc.v.width, .int .i64 rc.v.seq, .bool rc.v.last, .slice rc.A rc.n rc.c]] W fun e w' => e = .returned (.bool b0) ∧ Below W.heap.size W w' := fun W hW =>
          may_v rc b0 W (by rw [HC.out]; exact HB0.out) T6.out.cr.kd T6.out.cr.n
        have hF4 : ∀ W, Below wc.heap.size wc W → Calls Try.prog 36 #[.agg #[.int .u8 (rc.v.kind : Int), .int .i64 rc.v.client, .int .i64 rc.v.epoch, .int .i64 rc.v.width, .int .i64 rc.v.seq, .bool rc.v.last, .slice rc.A rc.n rc.c]] W fun e w' => e = .returned (.bool up) ∧ Below W.heap.size W w' := fun W hW =>
          up_v rc up W (by rw [HC.out]; exact HU.out) T6.out.cr.kd T6.out.cr.n
        have hF5 : ∀ W, Below wc.heap.size wc W → Calls Try.prog 37 #[.agg #[.int .u8 (r.v.kind : Int), .int .i64 r.v.client, .int .i64 r.v.epoch, .int .i64 r.v.width, .int .i64 r.v.seq, .bool r.v.last, .slice r.A r.n r.c], .agg #[.int .u8 (q.v.kind : Int), .int .i64 q.v.client, .int .i64 q.v.epoch, .int .i64 q.v.width, .int .i64 q.v.seq, .bool q.v.last, .slice q.A q.n q.c]] W fun e w' => e = .returned (.bool (sameM r.v q.v)) ∧ Below W.heap.size W w' := fun W hW =>
          Same_v r q _ W (T6.out.b.rr.ext hW) (T6.out.b.qr.ext hW) rfl
        have hF6 : ∀ W, Below wc.heap.size wc W → Calls Try.prog 30 #[.agg #[.int .u8 (r.v.kind : Int), .int .i64 r.v.client, .int .i64 r.v.epoch, .int .i64 r.v.width, .int .i64 r.v.seq, .bool r.v.last, .slice r.A r.n r.c], .agg #[.int .u8 (q.v.kind : Int), .int .i64 q.v.client, .int .i64 q.v.epoch, .int .i64 q.v.width, .int .i64 q.v.seq, .bool q.v.last, .slice q.A q.n q.c]] W fun e w' => e = .returned (.bool (sameM r.v q.v)) ∧ Below W.heap.size W w' := fun W hW =>
          rSame24_v r q _ W (T6.out.b.rr.ext hW) (T6.out.b.qr.ext hW) rfl
        have hF7 : ∀ W, Below wc.heap.size wc W → Calls Try.prog 37 #[.agg #[.int .u8 (r.v.kind : Int), .int .i64 r.v.client, .int .i64 r.v.epoch, .int .i64 r.v.width, .int .i64 r.v.seq, .bool r.v.last, .slice r.A r.n r.c], .agg #[.int .u8 (rc.v.kind : Int), .int .i64 rc.v.client, .int .i64 rc.v.epoch, .int .i64 rc.v.width, .int .i64 rc.v.seq, .bool rc.v.last, .slice rc.A rc.n rc.c]] W fun e w' => e = .returned (.bool true) ∧ Below W.heap.size W w' := fun W hW =>
          Same_v r rc true W (T6.out.b.rr.ext hW) (T6.out.cr.ext hW) (by rw [HC.out]; exact sameM_self _)
        have HF1 := Lib.hid hF1
        have HF2 := Lib.hid hF2
        have HF3 := Lib.hid hF3
        have HF4 := Lib.hid hF4
        have HF5 := Lib.hid hF5
        have HF6 := Lib.hid hF6
        have HF7 := Lib.hid hF7
        clear hF1 hF2 hF3 hF4 hF5 hF6 hF7
        generalize sameM r.v q.v = sm at *
        go_upto_region 8 with fail
        refine Uni.region (last := 40) (S := fun w' => Below wc.heap.size wc w') (by kernel_rfl) ((Below.refl _ _).drew) ?_
        try simp only [Act.put, List.setIfInBounds_toArray, List.set_cons_zero, List.set_cons_succ]
        (refine Uni.WU.take (i := 0) (oi := { dst := some 52, op := _, type := _, pos := _, after := _, guard := _ }) (v := ?_) rfl (by kernel_rfl) (by kernel_rfl) (by decide) (by kernel_rfl) (by kernel_rfl) (Uni.Uni.run (by kernel_rfl) (by intro W' hS'; obtain ⟨hq1, hq2⟩ := bcell hS'; go_simp; try with_reducible rfl)) ?_; (try simp only [Act.put, List.setIfInBounds_toArray, List.set_cons_zero, List.set_cons_succ]))
        (refine Uni.WU.take (i := 1) (oi := { dst := some 53, op := _, type := _, pos := _, after := _, guard := _ }) (v := ?_) rfl (by kernel_rfl) (by kernel_rfl) (by decide) (by kernel_rfl) (by kernel_rfl) (Uni.Uni.run (by kernel_rfl) (by intro W' hS'; obtain ⟨hq1, hq2⟩ := bcell hS'; go_simp; try with_reducible rfl)) ?_; (try simp only [Act.put, List.setIfInBounds_toArray, List.set_cons_zero, List.set_cons_succ]))
        (refine Uni.WU.take (i := 2) (oi := { dst := some 54, op := _, type := _, pos := _, after := _, guard := _ }) (v := ?_) rfl (by kernel_rfl) (by kernel_rfl) (by decide) (by kernel_rfl) (by kernel_rfl) (Uni.Uni.run (by kernel_rfl) (by intro W' hS'; obtain ⟨hq1, hq2⟩ := bcell hS'; go_simp; try with_reducible rfl)) ?_; (try simp only [Act.put, List.setIfInBounds_toArray, List.set_cons_zero, List.set_cons_succ]))
        (refine Uni.WU.take (i := 3) (oi := { dst := some 55, op := _, type := _, pos := _, after := _, guard := _ }) (v := ?_) rfl (by kernel_rfl) (by kernel_rfl) (by decide) (by kernel_rfl) (by kernel_rfl) (Uni.Uni.run (by kernel_rfl) (by intro W' hS'; obtain ⟨hq1, hq2⟩ := bcell hS'; go_simp; try with_reducible rfl)) ?_; (try simp only [Act.put, List.setIfInBounds_toArray, List.set_cons_zero, List.set_cons_succ]))
        (refine Uni.WU.take (i := 4) (oi := { dst := some 56, op := _, type := _, pos := _, after := _, guard := _ }) (v := ?_) rfl (by kernel_rfl) (by kernel_rfl) (by decide) (by kernel_rfl) (by kernel_rfl) (Uni.Uni.run (by kernel_rfl) (by intro W' hS'; obtain ⟨hq1, hq2⟩ := bcell hS'; go_simp; try with_reducible rfl)) ?_; (try simp only [Act.put, List.setIfInBounds_toArray, List.set_cons_zero, List.set_cons_succ]))
        (refine Uni.WU.take (i := 5) (oi := { dst := some 57, op := _, type := _, pos := _, after := _, guard := _ }) (v := ?_) rfl (by kernel_rfl) (by kernel_rfl) (by decide) (by kernel_rfl) (by kernel_rfl) (Uni.Uni.run (by kernel_rfl) (by intro W' hS'; obtain ⟨hq1, hq2⟩ := bcell hS'; go_simp; try with_reducible rfl)) ?_; (try simp only [Act.put, List.setIfInBounds_toArray, List.set_cons_zero, List.set_cons_succ]))
        (refine Uni.WU.take (i := 6) (oi := { dst := some 58, op := _, type := _, pos := _, after := _, guard := _ }) (v := .bool true) rfl (by kernel_rfl) (by kernel_rfl) (by decide) (by kernel_rfl) (by kernel_rfl) (Uni.Uni.call (by kernel_rfl) (by intro W' hS'; go_simp; try with_reducible rfl) (fun W' hS' => (HF1.out W' hS').mono fun e w' h => ⟨h.1, ext_under hS' (Nat.le_refl _) h.2⟩)) ?_; (try simp only [Act.put, List.setIfInBounds_toArray, List.set_cons_zero, List.set_cons_succ]))
        (refine Uni.WU.take (i := 7) (oi := { dst := some 59, op := _, type := _, pos := _, after := _, guard := _ }) (v := ?_) rfl (by kernel_rfl) (by kernel_rfl) (by decide) (by kernel_rfl) (by kernel_rfl) (Uni.Uni.run (by kernel_rfl) (by intro W' hS'; obtain ⟨hq1, hq2⟩ := bcell hS'; go_simp; try with_reducible rfl)) ?_; (try simp only [Act.put, List.setIfInBounds_toArray, List.set_cons_zero, List.set_cons_succ]))
        (refine Uni.WU.take (i := 8) (oi := { dst := some 60, op := _, type := _, pos := _, after := _, guard := _ }) (v := ?_) rfl (by kernel_rfl) (by kernel_rfl) (by decide) (by kernel_rfl) (by kernel_rfl) (Uni.Uni.run (by kernel_rfl) (by intro W' hS'; obtain ⟨hq1, hq2⟩ := bcell hS'; go_simp; try with_reducible rfl)) ?_; (try simp only [Act.put, List.setIfInBounds_toArray, List.set_cons_zero, List.set_cons_succ]))
        (refine Uni.WU.take (i := 9) (oi := { dst := some 61, op := _, type := _, pos := _, after := _, guard := _ }) (v := ?_) rfl (by kernel_rfl) (by kernel_rfl) (by decide) (by kernel_rfl) (by kernel_rfl) (Uni.Uni.run (by kernel_rfl) (by intro W' hS'; obtain ⟨hq1, hq2⟩ := bcell hS'; go_simp; try with_reducible rfl)) ?_; (try simp only [Act.put, List.setIfInBounds_toArray, List.set_cons_zero, List.set_cons_succ]))
        (refine Uni.WU.take (i := 10) (oi := { dst := some 62, op := _, type := _, pos := _, after := _, guard := _ }) (v := ?_) rfl (by kernel_rfl) (by kernel_rfl) (by decide) (by kernel_rfl) (by kernel_rfl) (Uni.Uni.run (by kernel_rfl) (by intro W' hS'; obtain ⟨hq1, hq2⟩ := bcell hS'; go_simp; try with_reducible rfl)) ?_; (try simp only [Act.put, List.setIfInBounds_toArray, List.set_cons_zero, List.set_cons_succ]))
        (refine Uni.WU.take (i := 11) (oi := { dst := some 63, op := _, type := _, pos := _, after := _, guard := _ }) (v := .bool true) rfl (by kernel_rfl) (by kernel_rfl) (by decide) (by kernel_rfl) (by kernel_rfl) (Uni.Uni.call (by kernel_rfl) (by intro W' hS'; go_simp; try with_reducible rfl) (fun W' hS' => (HF2.out W' hS').mono fun e w' h => ⟨h.1, ext_under hS' (Nat.le_refl _) h.2⟩)) ?_; (try simp only [Act.put, List.setIfInBounds_toArray, List.set_cons_zero, List.set_cons_succ]))
        (refine Uni.WU.take (i := 12) (oi := { dst := some 64, op := _, type := _, pos := _, after := _, guard := _ }) (v := ?_) rfl (by kernel_rfl) (by kernel_rfl) (by decide) (by kernel_rfl) (by kernel_rfl) (Uni.Uni.run (by kernel_rfl) (by intro W' hS'; obtain ⟨hq1, hq2⟩ := bcell hS'; go_simp; try with_reducible rfl)) ?_; (try simp only [Act.put, List.setIfInBounds_toArray, List.set_cons_zero, List.set_cons_succ]))
        (refine Uni.WU.take (i := 13) (oi := { dst := some 65, op := _, type := _, pos := _, after := _, guard := _ }) (v := ?_) rfl (by kernel_rfl) (by kernel_rfl) (by decide) (by kernel_rfl) (by kernel_rfl) (Uni.Uni.run (by kernel_rfl) (by intro W' hS'; obtain ⟨hq1, hq2⟩ := bcell hS'; go_simp; try with_reducible rfl)) ?_; (try simp only [Act.put, List.setIfInBounds_toArray, List.set_cons_zero, List.set_cons_succ]))
        (refine Uni.WU.take (i := 14) (oi := { dst := some 66, op := _, type := _, pos := _, after := _, guard := _ }) (v := ?_) rfl (by kernel_rfl) (by kernel_rfl) (by decide) (by kernel_rfl) (by kernel_rfl) (Uni.Uni.run (by kernel_rfl) (by intro W' hS'; obtain ⟨hq1, hq2⟩ := bcell hS'; go_simp; try with_reducible rfl)) ?_; (try simp only [Act.put, List.setIfInBounds_toArray, List.set_cons_zero, List.set_cons_succ]))
        (refine Uni.WU.take (i := 15) (oi := { dst := some 67, op := _, type := _, pos := _, after := _, guard := _ }) (v := .bool b0) rfl (by kernel_rfl) (by kernel_rfl) (by decide) (by kernel_rfl) (by kernel_rfl) (Uni.Uni.call (by kernel_rfl) (by intro W' hS'; go_simp; try with_reducible rfl) (fun W' hS' => (HF3.out W' hS').mono fun e w' h => ⟨h.1, ext_under hS' (Nat.le_refl _) h.2⟩)) ?_; (try simp only [Act.put, List.setIfInBounds_toArray, List.set_cons_zero, List.set_cons_succ]))
        (refine Uni.WU.take (i := 16) (oi := { dst := some 68, op := _, type := _, pos := _, after := _, guard := _ }) (v := ?_) rfl (by kernel_rfl) (by kernel_rfl) (by decide) (by kernel_rfl) (by kernel_rfl) (Uni.Uni.run (by kernel_rfl) (by intro W' hS'; obtain ⟨hq1, hq2⟩ := bcell hS'; go_simp; try with_reducible rfl)) ?_; (try simp only [Act.put, List.setIfInBounds_toArray, List.set_cons_zero, List.set_cons_succ]))
        (refine Uni.WU.take (i := 17) (oi := { dst := some 69, op := _, type := _, pos := _, after := _, guard := _ }) (v := ?_) rfl (by kernel_rfl) (by kernel_rfl) (by decide) (by kernel_rfl) (by kernel_rfl) (Uni.Uni.run (by kernel_rfl) (by intro W' hS'; obtain ⟨hq1, hq2⟩ := bcell hS'; go_simp; try with_reducible rfl)) ?_; (try simp only [Act.put, List.setIfInBounds_toArray, List.set_cons_zero, List.set_cons_succ]))
        (refine Uni.WU.take (i := 18) (oi := { dst := some 70, op := _, type := _, pos := _, after := _, guard := _ }) (v := ?_) rfl (by kernel_rfl) (by kernel_rfl) (by decide) (by kernel_rfl) (by kernel_rfl) (Uni.Uni.run (by kernel_rfl) (by intro W' hS'; obtain ⟨hq1, hq2⟩ := bcell hS'; go_simp; try with_reducible rfl)) ?_; (try simp only [Act.put, List.setIfInBounds_toArray, List.set_cons_zero, List.set_cons_succ]))
        (refine Uni.WU.take (i := 19) (oi := { dst := some 71, op := _, type := _, pos := _, after := _, guard := _ }) (v := ?_) rfl (by kernel_rfl) (by kernel_rfl) (by decide) (by kernel_rfl) (by kernel_rfl) (Uni.Uni.run (by kernel_rfl) (by intro W' hS'; obtain ⟨hq1, hq2⟩ := bcell hS'; go_simp; try with_reducible rfl)) ?_; (try simp only [Act.put, List.setIfInBounds_toArray, List.set_cons_zero, List.set_cons_succ]))
        (refine Uni.WU.take (i := 20) (oi := { dst := some 72, op := _, type := _, pos := _, after := _, guard := _ }) (v := ?_) rfl (by kernel_rfl) (by kernel_rfl) (by decide) (by kernel_rfl) (by kernel_rfl) (Uni.Uni.run (by kernel_rfl) (by intro W' hS'; obtain ⟨hq1, hq2⟩ := bcell hS'; go_simp; try with_reducible rfl)) ?_; (try simp only [Act.put, List.setIfInBounds_toArray, List.set_cons_zero, List.set_cons_succ]))
        (refine Uni.WU.take (i := 21) (oi := { dst := some 73, op := _, type := _, pos := _, after := _, guard := _ }) (v := .bool up) rfl (by kernel_rfl) (by kernel_rfl) (by decide) (by kernel_rfl) (by kernel_rfl) (Uni.Uni.call (by kernel_rfl) (by intro W' hS'; go_simp; try with_reducible rfl) (fun W' hS' => (HF4.out W' hS').mono fun e w' h => ⟨h.1, ext_under hS' (Nat.le_refl _) h.2⟩)) ?_; (try simp only [Act.put, List.setIfInBounds_toArray, List.set_cons_zero, List.set_cons_succ]))
        (refine Uni.WU.take (i := 22) (oi := { dst := some 74, op := _, type := _, pos := _, after := _, guard := _ }) (v := ?_) rfl (by kernel_rfl) (by kernel_rfl) (by decide) (by kernel_rfl) (by kernel_rfl) (Uni.Uni.run (by kernel_rfl) (by intro W' hS'; obtain ⟨hq1, hq2⟩ := bcell hS'; go_simp; try with_reducible rfl)) ?_; (try simp only [Act.put, List.setIfInBounds_toArray, List.set_cons_zero, List.set_cons_succ]))
        (refine Uni.WU.take (i := 23) (oi := { dst := some 75, op := _, type := _, pos := _, after := _, guard := _ }) (v := ?_) rfl (by kernel_rfl) (by kernel_rfl) (by decide) (by kernel_rfl) (by kernel_rfl) (Uni.Uni.run (by kernel_rfl) (by intro W' hS'; obtain ⟨hq1, hq2⟩ := bcell hS'; go_simp; try with_reducible rfl)) ?_; (try simp only [Act.put, List.setIfInBounds_toArray, List.set_cons_zero, List.set_cons_succ]))
        (refine Uni.WU.take (i := 24) (oi := { dst := some 76, op := _, type := _, pos := _, after := _, guard := _ }) (v := ?_) rfl (by kernel_rfl) (by kernel_rfl) (by decide) (by kernel_rfl) (by kernel_rfl) (Uni.Uni.run (by kernel_rfl) (by intro W' hS'; obtain ⟨hq1, hq2⟩ := bcell hS'; go_simp; try with_reducible rfl)) ?_; (try simp only [Act.put, List.setIfInBounds_toArray, List.set_cons_zero, List.set_cons_succ]))
        (refine Uni.WU.take (i := 25) (oi := { dst := some 77, op := _, type := _, pos := _, after := _, guard := _ }) (v := ?_) rfl (by kernel_rfl) (by kernel_rfl) (by decide) (by kernel_rfl) (by kernel_rfl) (Uni.Uni.run (by kernel_rfl) (by intro W' hS'; obtain ⟨hq1, hq2⟩ := bcell hS'; go_simp; try with_reducible rfl)) ?_; (try simp only [Act.put, List.setIfInBounds_toArray, List.set_cons_zero, List.set_cons_succ]))
        (refine Uni.WU.take (i := 26) (oi := { dst := some 78, op := _, type := _, pos := _, after := _, guard := _ }) (v := ?_) rfl (by kernel_rfl) (by kernel_rfl) (by decide) (by kernel_rfl) (by kernel_rfl) (Uni.Uni.run (by kernel_rfl) (by intro W' hS'; obtain ⟨hq1, hq2⟩ := bcell hS'; go_simp; try with_reducible rfl)) ?_; (try simp only [Act.put, List.setIfInBounds_toArray, List.set_cons_zero, List.set_cons_succ]))
        (refine Uni.WU.take (i := 27) (oi := { dst := some 79, op := _, type := _, pos := _, after := _, guard := _ }) (v := ?_) rfl (by kernel_rfl) (by kernel_rfl) (by decide) (by kernel_rfl) (by kernel_rfl) (Uni.Uni.run (by kernel_rfl) (by intro W' hS'; obtain ⟨hq1, hq2⟩ := bcell hS'; go_simp; try with_reducible rfl)) ?_; (try simp only [Act.put, List.setIfInBounds_toArray, List.set_cons_zero, List.set_cons_succ]))
        (refine Uni.WU.take (i := 28) (oi := { dst := some 80, op := _, type := _, pos := _, after := _, guard := _ }) (v := .bool sm) rfl (by kernel_rfl) (by kernel_rfl) (by decide) (by kernel_rfl) (by kernel_rfl) (Uni.Uni.call (by kernel_rfl) (by intro W' hS'; go_simp; try with_reducible rfl) (fun W' hS' => (HF5.out W' hS').mono fun e w' h => ⟨h.1, ext_under hS' (Nat.le_refl _) h.2⟩)) ?_; (try simp only [Act.put, List.setIfInBounds_toArray, List.set_cons_zero, List.set_cons_succ]))
        (refine Uni.WU.take (i := 29) (oi := { dst := some 81, op := _, type := _, pos := _, after := _, guard := _ }) (v := ?_) rfl (by kernel_rfl) (by kernel_rfl) (by decide) (by kernel_rfl) (by kernel_rfl) (Uni.Uni.run (by kernel_rfl) (by intro W' hS'; obtain ⟨hq1, hq2⟩ := bcell hS'; go_simp; try with_reducible rfl)) ?_; (try simp only [Act.put, List.setIfInBounds_toArray, List.set_cons_zero, List.set_cons_succ]))
        (refine Uni.WU.take (i := 30) (oi := { dst := some 82, op := _, type := _, pos := _, after := _, guard := _ }) (v := ?_) rfl (by kernel_rfl) (by kernel_rfl) (by decide) (by kernel_rfl) (by kernel_rfl) (Uni.Uni.run (by kernel_rfl) (by intro W' hS'; obtain ⟨hq1, hq2⟩ := bcell hS'; go_simp; try with_reducible rfl)) ?_; (try simp only [Act.put, List.setIfInBounds_toArray, List.set_cons_zero, List.set_cons_succ]))
        (refine Uni.WU.take (i := 31) (oi := { dst := some 83, op := _, type := _, pos := _, after := _, guard := _ }) (v := .bool sm) rfl (by kernel_rfl) (by kernel_rfl) (by decide) (by kernel_rfl) (by kernel_rfl) (Uni.Uni.call (by kernel_rfl) (by intro W' hS'; go_simp; try with_reducible rfl) (fun W' hS' => (HF6.out W' hS').mono fun e w' h => ⟨h.1, ext_under hS' (Nat.le_refl _) h.2⟩)) ?_; (try simp only [Act.put, List.setIfInBounds_toArray, List.set_cons_zero, List.set_cons_succ]))
        (refine Uni.WU.take (i := 32) (oi := { dst := some 84, op := _, type := _, pos := _, after := _, guard := _ }) (v := ?_) rfl (by kernel_rfl) (by kernel_rfl) (by decide) (by kernel_rfl) (by kernel_rfl) (Uni.Uni.run (by kernel_rfl) (by intro W' hS'; obtain ⟨hq1, hq2⟩ := bcell hS'; go_simp; try with_reducible rfl)) ?_; (try simp only [Act.put, List.setIfInBounds_toArray, List.set_cons_zero, List.set_cons_succ]))
        (refine Uni.WU.take (i := 33) (oi := { dst := some 85, op := _, type := _, pos := _, after := _, guard := _ }) (v := ?_) rfl (by kernel_rfl) (by kernel_rfl) (by decide) (by kernel_rfl) (by kernel_rfl) (Uni.Uni.run (by kernel_rfl) (by intro W' hS'; obtain ⟨hq1, hq2⟩ := bcell hS'; go_simp; try with_reducible rfl)) ?_; (try simp only [Act.put, List.setIfInBounds_toArray, List.set_cons_zero, List.set_cons_succ]))
        (refine Uni.WU.take (i := 34) (oi := { dst := some 86, op := _, type := _, pos := _, after := _, guard := _ }) (v := ?_) rfl (by kernel_rfl) (by kernel_rfl) (by decide) (by kernel_rfl) (by kernel_rfl) (Uni.Uni.run (by kernel_rfl) (by intro W' hS'; obtain ⟨hq1, hq2⟩ := bcell hS'; go_simp; try with_reducible rfl)) ?_; (try simp only [Act.put, List.setIfInBounds_toArray, List.set_cons_zero, List.set_cons_succ]))
        (refine Uni.WU.take (i := 35) (oi := { dst := some 87, op := _, type := _, pos := _, after := _, guard := _ }) (v := ?_) rfl (by kernel_rfl) (by kernel_rfl) (by decide) (by kernel_rfl) (by kernel_rfl) (Uni.Uni.run (by kernel_rfl) (by intro W' hS'; obtain ⟨hq1, hq2⟩ := bcell hS'; go_simp; try with_reducible rfl)) ?_; (try simp only [Act.put, List.setIfInBounds_toArray, List.set_cons_zero, List.set_cons_succ]))
        (refine Uni.WU.take (i := 36) (oi := { dst := some 88, op := _, type := _, pos := _, after := _, guard := _ }) (v := ?_) rfl (by kernel_rfl) (by kernel_rfl) (by decide) (by kernel_rfl) (by kernel_rfl) (Uni.Uni.run (by kernel_rfl) (by intro W' hS'; obtain ⟨hq1, hq2⟩ := bcell hS'; go_simp; try with_reducible rfl)) ?_; (try simp only [Act.put, List.setIfInBounds_toArray, List.set_cons_zero, List.set_cons_succ]))
        (refine Uni.WU.take (i := 37) (oi := { dst := some 89, op := _, type := _, pos := _, after := _, guard := _ }) (v := .bool true) rfl (by kernel_rfl) (by kernel_rfl) (by decide) (by kernel_rfl) (by kernel_rfl) (Uni.Uni.call (by kernel_rfl) (by intro W' hS'; go_simp; try with_reducible rfl) (fun W' hS' => (HF7.out W' hS').mono fun e w' h => ⟨h.1, ext_under hS' (Nat.le_refl _) h.2⟩)) ?_; (try simp only [Act.put, List.setIfInBounds_toArray, List.set_cons_zero, List.set_cons_succ]))
        (refine Uni.WU.take (i := 38) (oi := { dst := some 90, op := _, type := _, pos := _, after := _, guard := _ }) (v := ?_) rfl (by kernel_rfl) (by kernel_rfl) (by decide) (by kernel_rfl) (by kernel_rfl) (Uni.Uni.run (by kernel_rfl) (by intro W' hS'; obtain ⟨hq1, hq2⟩ := bcell hS'; go_simp; try with_reducible rfl)) ?_; (try simp only [Act.put, List.setIfInBounds_toArray, List.set_cons_zero, List.set_cons_succ]))
        (refine Uni.WU.take (i := 39) (oi := { dst := some 4, op := _, type := _, pos := _, after := _, guard := _ }) (v := ?_) rfl (by kernel_rfl) (by kernel_rfl) (by decide) (by kernel_rfl) (by kernel_rfl) (Uni.Uni.run (by kernel_rfl) (by intro W' hS'; obtain ⟨hq1, hq2⟩ := bcell hS'; go_simp; try with_reducible rfl)) ?_; (try simp only [Act.put, List.setIfInBounds_toArray, List.set_cons_zero, List.set_cons_succ]))
        refine Uni.WU.done (by kernel_rfl) (fun wz hz => ?_) _
        have HZ := Lib.hid (ext_under T6.out.b.be (Nat.le_refl _) hz)
        clear hz
        go_wp2
        go_ret
        exact ⟨rfl, HZ.out⟩
set_option maxRecDepth 100000 in
theorem lifted (os : Os) (started : os.Started) (H : Type) (enc : TypeId × Value → H) :
    ReturnsInHanded {} Try.checked os 7 .any (Rows.messageFormsSpec.pre6 enc Try.prog Try.f7 Rows.messageFormsRow.domain false) (Rows.messageFormsSpec.post enc Try.prog Try.f7 false true false false) := by
  refine returnsInHanded_of_change_sized (C := Try.checked) own started (by kernel_rfl) Try.func7
    (ChangeSpec.witness6 (enc := enc) (C := Try.checked) false ⟨#[], #[.agg #[.int .u8 0, .int .i64 0, .int .i64 0, .int .i64 0, .int .i64 0, .bool false, .slice none 0 0], .agg #[.int .u8 0, .int .i64 0, .int .i64 0, .int .i64 0, .int .i64 0, .bool false, .slice none 0 0]], []⟩ 8 (by kernel_rfl) (by kernel_rfl) (by kernel_rfl) (by kernel_rfl)) ?_
  intro W base args ds gs before hval0 hW hcnd hsz0 _
  have hval : ∀ (j : Nat) t v, Try.f7.params[j]? = some t → args[j]? = some v → Value.okWide Try.prog W .any base t v := hval0
  have hW' := hW
  obtain ⟨p, q, hA0, hV, rfl, hfz, hnd⟩ := hW
  have hA : DataW.TrodAll enc Try.prog W 0 (fun _ => true) true Try.f7.params.toList args.toList ds p := hA0
  have hsz : (DataW.weightsEach Try.prog (Try.f7.params.toList ++ []) (ds ++ gs)).all (· ≤ reachBytes) = true := hsz0
  rw [Try.params7] at hA hval hsz
  have hAll := hA
  obtain ⟨v0, vs0, d0, ds0, p0, q0, hargs, rfl, rfl, h0, r0⟩ := trodAll_cons hA
  obtain ⟨v1, vs1, d1, ds1, p1, q1, rfl, rfl, rfl, h1, r1⟩ := trodAll_cons r0
  obtain ⟨rfl, rfl, rfl⟩ := trodAll_nil r1
  obtain rfl : args = #[v0, v1] := by cases args; simp_all
  obtain ⟨rfl, rfl⟩ := trodVars_none hV
  obtain ⟨m, rfl, m_in⟩ := open_msg (hval 0 48 v0 rfl rfl) h0 (light_of hsz (j := 0) rfl rfl)
  obtain ⟨o, rfl, o_in⟩ := open_msg (hval 1 48 v1 rfl rfl) h1 (light_of hsz (j := 1) rfl rfl)
  refine (walk m o W m_in o_in).mono fun e W' ⟨he, bel⟩ => ?_
  subst he
  exact ⟨_, rfl, _, _, _, [], _, [], hW', trodAll_mk1 (shut_bool Try.underlying4 _), keep_args laidOut bel (by kernel_rfl) hAll, rfl, bel.frame _, fun h => by cases h⟩

theorem over : Rows.messageFormsRow.holds Try.pinned (OpenSpec.ofChange Rows.messageFormsSpec) :=
  OpenClaim.holds_of_wide 7 Try.f7 rfl rfl rfl rfl rfl rfl rfl ⟨rfl, rfl, rfl, rfl, rfl⟩ rfl rfl rfl rfl rfl (by kernel_rfl) Try.func7 (by kernel_rfl)
    (of_decide_eq_true (by kernel_rfl)) (by unfold Func.isWrapper; first | (rw [if_pos (by decide +kernel)]; kernel_rfl) | (rw [if_neg (by decide +kernel)]; exact ⟨rfl, rfl⟩))
    (fun os started H enc _ => lifted os started H enc)

theorem proved : Rows.MessageFormsSaid := over
#print axioms proved
end Go.Proofs.Ytoneechcclndaaa.lawMF
