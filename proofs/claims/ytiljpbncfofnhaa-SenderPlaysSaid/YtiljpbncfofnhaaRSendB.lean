/- sender: the document's sender in memory; New, Idle, Ack, Tick. -/
import Derived.Test.YtiljpbncfofnhaaRSendA
import Derived.Outline
import Derived.BigQuiet
import Derived.Deep.QuietTactic
import Derived.Deep.RegionWith
import Derived.Deep.RegionHeld3
import Derived.Deep.DrawnRows
import Derived.Deep.LoopGhost
import Derived.Deep.DeepCutAuto
import Derived.Laws.EntriesVeiled
namespace Go.Proofs.Ytiljpbncfofnhaa.Send
open Go.RowKit Go.ChangeShapes Go.WideShapes Go.ChangeAt
set_option linter.unusedVariables false
set_option linter.unusedSimpArgs false
attribute [local go_sem ↓] Go.wp_at_zero Go.wp_at_succ

def mkR (wv fv : Value) (sent acked waited patience : Int) : Array Value := #[wv, fv, .int .i64 sent, .int .i64 acked, .int .i64 waited, .int .i64 patience]
structure RndAt (w : World) (g : Nat) (F : Nat → Prop) (s : St) (wv fv : Value) (wp fp : List Pc) : Prop where
  blk : Blk w g 46 (mkR wv fv ((s.acked + s.fl.length : Nat) : Int) (s.acked : Int) s.waited s.patience)
  fg : F g
  lt : ∀ k, F k → k < w.heap.size
  wo : PcOwn F w 101 wv wp
  fo : PcOwn F w 101 fv fp
  sep : ∀ k, wv.ownBlock = some k → fv.ownBlock ≠ some k
  wc : wp.map Pc.core = s.wt.map fun x => (0, x.1, x.2)
  fc : fp.map Pc.core = numd s.acked s.fl
/-- at g lies the document's sender of that state, in the blocks F -/
def Rnd (w : World) (g : Nat) (F : Nat → Prop) (s : St) : Prop := ∃ wv fv wp fp, RndAt w g F s wv fv wp fp
theorem RndAt.wlen {w : World} {g : Nat} {F : Nat → Prop} {s : St} {wv fv : Value} {wp fp : List Pc} (h : RndAt w g F s wv fv wp fp) : wp.length = s.wt.length := by
  have := congrArg List.length h.wc
  simpa using this
theorem RndAt.flen {w : World} {g : Nat} {F : Nat → Prop} {s : St} {wv fv : Value} {wp fp : List Pc} (h : RndAt w g F s wv fv wp fp) : fp.length = s.fl.length := by
  have := congrArg List.length h.fc
  simpa [numd_len] using this
theorem RndAt.chg {w w' : World} {g : Nat} {F S : Nat → Prop} {s : St} {wv fv : Value} {wp fp : List Pc} (h : RndAt w g F s wv fv wp fp) (hc : Chg S w w') (hn : ∀ k, F k → ¬ S k) : RndAt w' g F s wv fv wp fp :=
  ⟨h.blk.chg hc (hn g h.fg), h.fg, fun k hk => Nat.lt_of_lt_of_le (h.lt k hk) hc.size, h.wo.chg hc hn, h.fo.chg hc hn, h.sep, h.wc, h.fc⟩
theorem Rnd.chg {w w' : World} {g : Nat} {F S : Nat → Prop} {s : St} (h : Rnd w g F s) (hc : Chg S w w') (hn : ∀ k, F k → ¬ S k) : Rnd w' g F s := by
  obtain ⟨wv, fv, wp, fp, h⟩ := h
  exact ⟨wv, fv, wp, fp, h.chg hc hn⟩
def RndOp (w : World) (g : Nat) (F : Nat → Prop) (s' : St) (w' : World) : Prop := ∃ F', Rnd w' g F' s' ∧ Chg F w w' ∧ ∀ k, F' k → F k ∨ w.heap.size ≤ k
def RndOut (w : World) (g : Nat) (F : Nat → Prop) (s' : St) (out : List (Int × Bool × List UInt8)) (r : Ending) (w' : World) : Prop :=
  ∃ (F' R : Nat → Prop) (v : Value) (ps : List Pc), r = .returned v ∧ Rnd w' g F' s' ∧ PcOwn R w' 101 v ps ∧ ps.map Pc.core = out ∧ (∀ k, R k → w.heap.size ≤ k ∧ ¬ F' k) ∧ Chg F w w' ∧ ∀ k, F' k → F k ∨ w.heap.size ≤ k
theorem RndOut.none_ {w w' : World} {g : Nat} {F : Nat → Prop} {s' : St} (h : RndOp w g F s' w') : RndOut w g F s' [] (.returned (.slice none 0 0)) w' := by
  obtain ⟨F', h1, h2, h3⟩ := h
  exact ⟨F', fun _ => False, _, [], rfl, h1, ⟨OwnA.nil_ _ _ _ _, fun k hk => (by cases hk), fun p hp => (by cases hp), fun p hp => (by cases hp)⟩, rfl, fun k hk => hk.elim, h2, h3⟩
theorem RndOut.of_own {w w1 w' : World} {g : Nat} {F : Nat → Prop} {s' : St} {out : List (Int × Bool × List UInt8)} {r : Ending} (h : RndOp w g F s' w1) (hr : RetP27 w1 out r w') : RndOut w g F s' out r w' := by
  obtain ⟨F', h1, h2, h3⟩ := h
  obtain ⟨v, ps, rfl, h4, h5, h6⟩ := hr
  obtain ⟨wv, fv, wp, fp, h1⟩ := h1
  refine ⟨F', _, v, ps, rfl, ⟨wv, fv, wp, fp, h1.chg (Chg.of_ext (S := fun _ => False) h6) (fun _ _ h => h)⟩, h4, h5, fun k hk => ⟨Nat.le_trans h2.size hk, fun hf => ?_⟩, h2.trans (T := fun _ => False) (Chg.of_ext h6) (fun _ _ h => h.elim), h3⟩
  have := h1.lt k hf
  have hk' : w1.heap.size ≤ k := hk
  omega
/-- another state of what waited, at the same pieces -/
theorem rwait_pack {w w' : World} {g : Nat} {F : Nat → Prop} {s : St} {wv fv : Value} {wp fp : List Pc} {x y : Int} (h : RndAt w g F s wv fv wp fp) (hc : Chg (fun k => k = g) w w')
    (hb : Blk w' g 46 (mkR wv fv ((s.acked + s.fl.length : Nat) : Int) (s.acked : Int) x y)) : RndAt w' g F { s with waited := x, patience := y } wv fv wp fp :=
  ⟨hb, h.fg, fun i hi => Nat.lt_of_lt_of_le (h.lt i hi) hc.size, h.wo.other hc h.blk (by decide) (by decide), h.fo.other hc h.blk (by decide) (by decide), h.sep, h.wc, h.fc⟩
theorem RndAt.op {w w' : World} {g : Nat} {F : Nat → Prop} {s s' : St} {wv fv : Value} {wp fp : List Pc} (h : RndAt w g F s wv fv wp fp) (h' : RndAt w' g F s' wv fv wp fp) (hc : Chg (fun k => k = g) w w') : RndOp w g F s' w' :=
  ⟨F, ⟨_, _, _, _, h'⟩, hc.mono (fun i _ hi => hi ▸ h.fg), fun i hi => .inl hi⟩
theorem rnd_refl {w : World} {g : Nat} {F : Nat → Prop} {s : St} (h : Rnd w g F s) : RndOp w g F s w := ⟨F, h, Chg.refl _ _, fun k hk => .inl hk⟩

theorem rnew_any (w : World) : Calls Try.prog 15 #[] w fun e w' => e = .returned (.pointer (some ⟨w.heap.size, 0, none⟩)) ∧ w.alloc (.cells (mkR (.slice none 0 0) (.slice none 0 0) 0 0 0 2) 46) = w' := by
  go_enter Try.func15, Try.ntmps15
  go_wp2
  go_ret
  exact ⟨rfl, rfl⟩
theorem Rnd.new (w : World) : Rnd (w.alloc (.cells (mkR (.slice none 0 0) (.slice none 0 0) 0 0 0 2) 46)) w.heap.size (fun k => k = w.heap.size) ⟨[], [], 0, 0, 2⟩ :=
  ⟨_, _, [], [], ⟨Blk.new _ _ _, rfl, fun k hk => by subst hk; simp, ⟨OwnA.nil_ _ _ _ _, fun k hk => (by cases hk), fun p hp => (by cases hp), fun p hp => (by cases hp)⟩, ⟨OwnA.nil_ _ _ _ _, fun k hk => (by cases hk), fun p hp => (by cases hp), fun p hp => (by cases hp)⟩, fun k hk => (by cases hk), rfl, rfl⟩⟩
theorem ridle_at (w : World) (g : Nat) (A B : Option Addr) (nw cw nf cf : Nat) (sent acked waited patience : Int) (hb : Blk w g 46 (mkR (.slice A nw cw) (.slice B nf cf) sent acked waited patience)) :
    Calls Try.prog 29 #[.pointer (some ⟨g, 0, none⟩)] w fun e w' => e = .returned (.bool ((nw == 0) && (nf == 0))) ∧ w = w' := by
  have c0 : w.cell? ⟨g, 0, none⟩ = some (.slice A nw cw) := hb.cell 0
  have c1 : w.cell? ⟨g, 1, none⟩ = some (.slice B nf cf) := hb.cell 1
  clear hb
  by_cases h1 : nw = 0
  · subst h1
    by_cases h2 : nf = 0
    · subst h2
      go_enter Try.func29, Try.ntmps29
      go_wp2
      go_ret
      exact ⟨rfl, rfl⟩
    · have e2 : ((nf : Int) == 0) = false := by simp; omega
      have e3 : (nf == 0) = false := by simpa using h2
      rw [e3]
      go_enter Try.func29, Try.ntmps29
      go_wp2
      go_ret
      exact ⟨rfl, rfl⟩
  · have e2 : ((nw : Int) == 0) = false := by simp; omega
    have e3 : (nw == 0) = false := by simpa using h1
    rw [e3]
    go_enter Try.func29, Try.ntmps29
    go_wp2
    go_ret
    exact ⟨rfl, rfl⟩
theorem Rnd.idle {w : World} {g : Nat} {F : Nat → Prop} {s : St} (h : Rnd w g F s) : Calls Try.prog 29 #[.pointer (some ⟨g, 0, none⟩)] w fun e w' => e = .returned (.bool (s.fl.isEmpty && s.wt.isEmpty)) ∧ w = w' := by
  obtain ⟨wv, fv, wp, fp, h⟩ := h
  obtain ⟨B, nf, cf, rfl, hnf, _⟩ := h.fo.own.form
  obtain ⟨A, nw, cw, rfl, hnw, _⟩ := h.wo.own.form
  have e1 := hnf.out.trans h.flen
  have e2 := hnw.out.trans h.wlen
  refine (ridle_at w g A B nw cw nf cf _ _ _ _ h.blk).mono ?_
  rintro e w' ⟨rfl, rfl⟩
  refine ⟨ret_bool ?_, rfl⟩
  rw [e1, e2]
  cases s.fl <;> cases s.wt <;> simp

theorem rslo (A : Option Addr) (n cap : Nat) (k : Int) (h0 : 0 ≤ k) (h1 : k ≤ (n : Int)) (W : World) :
    (Instr.slice 38 (.slice A n cap) (some (.int .i64 k)) none none).run Try.prog W = .ok (.slice (cutA A cap k.toNat 3) (n - k.toNat) (cap - k.toNat)) W :=
  run_slice_lo Try.underlying38 (Option.isSome_iff_exists.1 (by kernel_rfl)) (by kernel_rfl) A n cap k h0 h1 W
theorem rack_pack {w w' : World} {g : Nat} {F : Nat → Prop} {s : St} {wv : Value} {B : Option Addr} {nf cf : Nat} {wp fp : List Pc} (h : RndAt w g F s wv (.slice B nf cf) wp fp) (hk : 1 ≤ s.fl.length)
    (hb : Blk w' g 46 (mkR wv (.slice (cutA B cf 1 3) (nf - 1) (cf - 1)) ((s.acked + s.fl.length : Nat) : Int) ((s.acked : Int) + 1) 0 2)) (hc : Chg (fun k => k = g) w w') : RndAt w' g F (s.after 1) wv (.slice (cutA B cf 1 3) (nf - 1) (cf - 1)) wp (fp.drop 1) := by
  have hkf : 1 ≤ fp.length := by rw [h.flen]; exact hk
  refine ⟨?_, h.fg, fun i hi => Nat.lt_of_lt_of_le (h.lt i hi) hc.size, h.wo.other hc h.blk (by decide) (by decide), (h.fo.other hc h.blk (by decide) (by decide)).cut 1 hkf, ?_, h.wc, ?_⟩
  · refine cast (congrArg (Blk w' g 46) ?_) hb
    simp only [St.after, mkR]
    have e1 : ((s.acked + s.fl.length : Nat) : Int) = ((s.acked + 1 + (s.fl.drop 1).length : Nat) : Int) := by rw [List.length_drop]; congr 1; omega
    have e2 : (s.acked : Int) + 1 = ((s.acked + 1 : Nat) : Int) := by omega
    rw [e1, e2]
  · intro i hi he
    rw [cutA_block, own_block B _ _ nf cf] at he
    exact h.sep i hi he
  · simp only [St.after]
    rw [List.map_drop, h.fc, numd_drop _ _ _ hk]
theorem after_after (s : St) (j : Nat) : (s.after j).after 1 = s.after (j + 1) := by simp [St.after, List.drop_drop, Nat.add_assoc]
def ackJ (s : St) (j : Nat) : St := if j = 0 then s else s.after j
theorem ackJ_succ (s : St) (j : Nat) : (ackJ s j).after 1 = ackJ s (j + 1) := by
  unfold ackJ
  by_cases h : j = 0
  · subst h; simp
  · rw [if_neg h, if_neg (by omega), after_after]
theorem ackJ_acked (s : St) (j : Nat) : (ackJ s j).acked = s.acked + j := by unfold ackJ; split <;> simp_all [St.after]
theorem ackJ_fl (s : St) (j : Nat) : (ackJ s j).fl = s.fl.drop j := by unfold ackJ; split <;> simp_all [St.after]

set_option maxHeartbeats 2000000 in
theorem rack_any (w : World) (g : Nat) (F : Nat → Prop) (s : St) (seq : Int) (h : Rnd w g F s) (hs : s.Ok) (h1 : -9223372036854775808 ≤ seq) (h2 : seq ≤ 9223372036854775807) :
    Calls Try.prog 25 #[.pointer (some ⟨g, 0, none⟩), .int .i64 seq] w fun e w' => e = .returned (.int .i64 (ackE s seq)) ∧ RndOp w g F (ackS s seq) w' := by
  have HR := Lib.hid h
  obtain ⟨wv, fv, wp, fp, h⟩ := h
  have b1 := hs.fl
  have b2 := hs.all
  have c2 : w.cell? ⟨g, 2, none⟩ = some (.int .i64 ((s.acked + s.fl.length : Nat) : Int)) := h.blk.cell 2
  obtain ⟨S, hS⟩ : ∃ S : Int, Hid (S = ((s.acked + s.fl.length : Nat) : Int)) := ⟨_, rfl⟩
  rw [← hS.out] at c2
  have HH := Lib.hid h
  clear h
  by_cases t1 : seq < 0
  · have he := Lib.hid (show ackE s seq = 2 ∧ ackS s seq = s by simp [ackE, ackS, ackB, t1])
    have d1 : decide (seq < 0) = true := by simpa using t1
    go_enter Try.func25, Try.ntmps25
    go_wp2
    go_ret
    exact ⟨ret_int he.out.1.symm, by rw [he.out.2]; exact rnd_refl HR.out⟩
  · have d1 : decide (seq < 0) = false := by simpa using t1
    by_cases t2 : S < seq
    · have he := Lib.hid (show ackE s seq = 2 ∧ ackS s seq = s by
        have hb : ackB s seq = true := by simp [ackB]; have := hS.out; omega
        simp [ackE, ackS, hb])
      have d2 : decide (S < seq) = true := decide_eq_true t2
      go_enter Try.func25, Try.ntmps25
      go_wp2
      go_ret
      exact ⟨ret_int he.out.1.symm, by rw [he.out.2]; exact rnd_refl HR.out⟩
    · have d2 : decide (S < seq) = false := decide_eq_false t2
      have HE := Lib.hid (show ackE s seq = 0 ∧ ackS s seq = ackJ s (seq.toNat - s.acked) by
        have hb : ackB s seq = false := by simp [ackB]; have := hS.out; omega
        refine ⟨by simp [ackE, hb], ?_⟩
        unfold ackS ackJ
        rw [hb]
        by_cases h3 : (s.acked : Int) < seq
        · simp only [Bool.false_eq_true, if_false]
          rw [if_pos h3, if_neg (by omega)]
        · simp only [Bool.false_eq_true, if_false]
          rw [if_neg h3, if_pos (by omega)])
      go_enter Try.func25, Try.ntmps25
      go_wp2
      go_loopg [] 5 (fun gk wr => ∃ (j : Nat) (wv fv : Value) (wp fp : List Pc), 5 ≤ j + gk ∧ j ≤ s.fl.length ∧ Hid (RndAt wr g F (ackJ s j) wv fv wp fp ∧ Chg (fun k => k = g) w wr ∧ (s.acked + j : Int) ≤ max seq s.acked))
      case atStart => exact ⟨0, wv, fv, wp, fp, by omega, by omega, HH.out, Chg.refl _ _, by omega⟩
      case round =>
        obtain ⟨j, wv, fv, wp, fp, hgk, hj, hJ⟩ := hrel
        obtain ⟨B, nf, cf, rfl, hnf, hle, hmx, hnil⟩ := hJ.out.1.fo.own.form
        have hfl := hnf.out.trans hJ.out.1.flen
        rw [ackJ_fl, List.length_drop] at hfl
        have c1 : wr.cell? ⟨g, 1, none⟩ = some (.slice B nf cf) := hJ.out.1.blk.cell 1
        have c3 : wr.cell? ⟨g, 3, none⟩ = some (.int .i64 ((ackJ s j).acked : Int)) := hJ.out.1.blk.cell 3
        have c4 : wr.cell? ⟨g, 4, none⟩ = some (.int .i64 (ackJ s j).waited) := hJ.out.1.blk.cell 4
        have c5 : wr.cell? ⟨g, 5, none⟩ = some (.int .i64 (ackJ s j).patience) := hJ.out.1.blk.cell 5
        have f1 := hJ.out.1.blk.free 1
        have f3 := hJ.out.1.blk.free 3
        have f4 := hJ.out.1.blk.free 4
        have f5 := hJ.out.1.blk.free 5
        have hS' := hS.out
        have hJ3 := hJ.out.2.2
        by_cases hn0 : nf = 0
        · have hk : Hid (seq.toNat - s.acked = j) := by rw [Hid]; omega
          subst hn0
          clear hfl hnf hS' hJ3
          go_wp2
          go_ret
          refine ⟨ret_int HE.out.1.symm, ?_⟩
          rw [HE.out.2, hk.out]
          exact ⟨F, ⟨_, _, _, _, hJ.out.1⟩, hJ.out.2.1.mono (fun i _ hi => hi ▸ hJ.out.1.fg), fun i hi => .inl hi⟩
        · have g1 : decide (0 < (nf : Int)) = true := decide_eq_true (by omega)
          have g2 : decide (0 < nf) = true := decide_eq_true (by omega)
          have hj1 : 0 < fp.length := by have := hnf.out; omega
          have hx := List.getElem?_eq_getElem hj1
          obtain ⟨vb, vo, rfl, hvb, y0, y1, y2⟩ := pc_at (hJ.out.1.fo.own.sl Pc.cells_len) hx
          have hxs : fp[0].seq = (s.acked : Int) + j + 1 := by
            have h := congrArg (fun l => l[0]?.map (·.1)) hJ.out.1.fc
            simp only [List.getElem?_map, hx, Option.map_some] at h
            rw [ackJ_fl, ackJ_acked] at h
            obtain ⟨z, zs, hz⟩ : ∃ z zs, s.fl.drop j = z :: zs := by
              cases hd : s.fl.drop j with
              | nil => have := congrArg List.length hd; simp at this; omega
              | cons z zs => exact ⟨z, zs, rfl⟩
            rw [hz] at h
            simp [numd, Pc.core] at h
            omega
          have HX := Lib.hid hxs
          generalize fp[0].seq = q at *
          simp only [Nat.zero_mul, Nat.add_zero] at y0
          clear hx y1 y2
          by_cases hq : q ≤ seq
          · have g3 : decide (q ≤ seq) = true := decide_eq_true hq
            have s2 : ∀ W, (Instr.slice 38 (.slice (some ⟨vb, vo, none⟩) nf cf) (some (.int .i64 1)) none none).run Try.prog W = .ok (.slice (cutA (some ⟨vb, vo, none⟩) cf 1 3) (nf - 1) (cf - 1)) W := fun W => by
              have := rslo (some ⟨vb, vo, none⟩) nf cf 1 (by omega) (by omega) W
              simpa using this
            have hlt : Hid (1 ≤ (ackJ s j).fl.length ∧ j + 1 ≤ s.fl.length ∧ (s.acked + (j + 1 : Nat) : Int) ≤ max seq s.acked) := by
              rw [Hid, ackJ_fl, List.length_drop]; omega
            have hqa : Hid (q = ((ackJ s j).acked : Int) + 1) := by rw [Hid, ackJ_acked, hxs]; omega
            clear hfl hnf hS' hJ3 hxs
            have b3 : (0 : Int) < (nf : Int) := by omega
            go_wp2
            go_roundg (gk - 1)
            case measure => have := hlt.out; omega
            case rel =>
              have hb := ((((hJ.out.1.blk.set_ 3 (.int .i64 q)).set_ 1 (.slice (cutA (some ⟨vb, vo, none⟩) cf 1 3) (nf - 1) (cf - 1))).set_ 4 (.int .i64 0)).set_ 5 (.int .i64 2))
              have hc : Chg (fun k => k = g) wr ((((wr.setCell ⟨g, 3, none⟩ (.int .i64 q)).setCell ⟨g, 1, none⟩ (.slice (cutA (some ⟨vb, vo, none⟩) cf 1 3) (nf - 1) (cf - 1))).setCell ⟨g, 4, none⟩ (.int .i64 0)).setCell ⟨g, 5, none⟩ (.int .i64 2)) :=
                ((((Chg.refl (fun k => k = g) wr).setCell (p := ⟨g, 3, none⟩) (fun _ => rfl) _).setCell (p := ⟨g, 1, none⟩) (fun _ => rfl) _).setCell (p := ⟨g, 4, none⟩) (fun _ => rfl) _).setCell (p := ⟨g, 5, none⟩) (fun _ => rfl) _
              rw [hqa.out] at hb hc
              have hP := rack_pack hJ.out.1 hlt.out.1 hb hc
              rw [ackJ_succ] at hP
              rw [← hqa.out] at hP hc
              exact ⟨j + 1, _, _, _, _, by omega, hlt.out.2.1, hP, hJ.out.2.1.trans hc (fun _ _ h => h), hlt.out.2.2⟩
          · have g3 : decide (q ≤ seq) = false := decide_eq_false hq
            have hk : Hid (seq.toNat - s.acked = j) := by rw [Hid]; omega
            clear hfl hnf hS' hJ3 hxs
            have b3 : (0 : Int) < (nf : Int) := by omega
            go_wp2
            go_ret
            refine ⟨ret_int HE.out.1.symm, ?_⟩
            rw [HE.out.2, hk.out]
            exact ⟨F, ⟨_, _, _, _, hJ.out.1⟩, hJ.out.2.1.mono (fun i _ hi => hi ▸ hJ.out.1.fg), fun i hi => .inl hi⟩
set_option maxHeartbeats 2000000 in
theorem rtick_any (w : World) (g : Nat) (F : Nat → Prop) (s : St) (h : Rnd w g F s) (hs : s.Ok) :
    Calls Try.prog 27 #[.pointer (some ⟨g, 0, none⟩)] w (RndOut w g F (tickS s) (tickO s)) := by
  have HR := Lib.hid h
  obtain ⟨wv, fv, wp, fp, h⟩ := h
  obtain ⟨B, nf, cf, rfl, hnf, hle, hmx, hnil⟩ := h.fo.own.form
  have hfl : nf = s.fl.length := hnf.out.trans h.flen
  have b1 := hs.fl
  have b3 := hs.w0
  have b4 := hs.w1
  have b5 := hs.p0
  have b6 := hs.p1
  have c1 : w.cell? ⟨g, 1, none⟩ = some (.slice B nf cf) := h.blk.cell 1
  have c4 : w.cell? ⟨g, 4, none⟩ = some (.int .i64 s.waited) := h.blk.cell 4
  have c5 : w.cell? ⟨g, 5, none⟩ = some (.int .i64 s.patience) := h.blk.cell 5
  have f4 := h.blk.free 4
  have f5 := h.blk.free 5
  have e1 : IntKind.i64.wrap (s.waited + 1) = s.waited + 1 := IntWalk.i64_in _ (by omega)
  have e2 : IntKind.i64.wrap (2 * s.patience) = 2 * s.patience := IntWalk.i64_in _ (by omega)
  have HH := Lib.hid h
  have Hfl := Lib.hid hfl
  have Hnf := Lib.hid (And.intro hnf (And.intro hle hnil))
  clear h hle hmx hnil hnf hfl
  by_cases t0 : nf = 0
  · have he := Lib.hid (show tickS s = s ∧ tickO s = [] by
      have : s.fl = [] := List.eq_nil_of_length_eq_zero (by rw [← Hfl.out]; exact t0)
      simp [tickS, tickO, this])
    subst t0
    go_enter Try.func27, Try.ntmps27
    go_wp2
    go_ret
    rw [he.out.1, he.out.2]
    exact RndOut.none_ (rnd_refl HR.out)
  · have ht0 : ((nf : Int) == 0) = false := by simp; omega
    have hne : s.fl ≠ [] := fun e => t0 (by rw [Hfl.out, e]; rfl)
    by_cases t1 : s.waited + 1 < s.patience
    · have he := Lib.hid (show tickS s = { s with waited := s.waited + 1 } ∧ tickO s = [] by simp [tickS, tickO, hne, t1])
      have d1 : (s.waited + 1 != s.patience) = true := by simp; omega
      clear hne
      go_enter Try.func27, Try.ntmps27
      go_wp2
      go_quiet (fail)
      go_wp2
      go_ret
      rw [he.out.1, he.out.2]
      have hch : Chg (fun k => k = g) w ((w.setCell ⟨g, 4, none⟩ (.int .i64 (s.waited + 1))).drewN nq) := ((Chg.refl (fun k => k = g) w).setCell (p := ⟨g, 4, none⟩) (fun _ => rfl) _).drewN nq
      exact RndOut.none_ (HH.out.op (rwait_pack HH.out hch ((HH.out.blk.set_ 4 _).drewN nq)) hch)
    · have he := Lib.hid (show tickS s = { s with waited := 0, patience := min (2 * s.patience) 16 } ∧ tickO s = numd s.acked s.fl by simp [tickS, tickO, hne, t1])
      have d1 : (s.waited + 1 != s.patience) = false := by simp; omega
      clear hne
      by_cases t2 : 16 < 2 * s.patience
      · have d2 : decide (16 < 2 * s.patience) = true := decide_eq_true t2
        have hmin : Hid (min (2 * s.patience) 16 = 16) := by rw [Hid]; omega
        go_enter Try.func27, Try.ntmps27
        go_wp2
        go_quiet (fail)
        go_wp2_with fail
        have hch : Chg (fun k => k = g) w (((((w.setCell ⟨g, 4, none⟩ (.int .i64 (s.waited + 1))).drewN nq).setCell ⟨g, 4, none⟩ (.int .i64 0)).setCell ⟨g, 5, none⟩ (.int .i64 (2 * s.patience))).setCell ⟨g, 5, none⟩ (.int .i64 16)) := (((((Chg.refl (fun k => k = g) w).setCell (p := ⟨g, 4, none⟩) (fun _ => rfl) _).drewN nq).setCell (p := ⟨g, 4, none⟩) (fun _ => rfl) _).setCell (p := ⟨g, 5, none⟩) (fun _ => rfl) _).setCell (p := ⟨g, 5, none⟩) (fun _ => rfl) _
        have hA := rwait_pack (x := 0) (y := 16) HH.out hch (((((HH.out.blk.set_ 4 _).drewN nq).set_ 4 _).set_ 5 _).set_ 5 _)
        have hop := Lib.hid (HH.out.op hA hch)
        have hown := Lib.hid (copy27_any fp B nf cf _ (hA.fo.own.sl Pc.cells_len) (fun p hp => (hA.fo.ok p hp).rd) (by rw [Hfl.out]; omega) Hnf.out.1)
        clear hA hch
        generalize ((((w.setCell ⟨g, 4, none⟩ (.int .i64 (s.waited + 1))).drewN nq).setCell ⟨g, 4, none⟩ (.int .i64 0)).setCell ⟨g, 5, none⟩ (.int .i64 (2 * s.patience))).setCell ⟨g, 5, none⟩ (.int .i64 16) = w1 at *
        refine (hown.out).mono ?_
        rintro e w' ⟨v, ps, rfl, ho1, ho2, ho3⟩
        have HR2 := Lib.hid (show RetP27 w1 (fp.map Pc.core) (.returned v) w' from ⟨v, ps, rfl, ho1, ho2, ho3⟩)
        clear ho1 ho2 ho3
        go_wp2
        go_ret
        rw [he.out.1, he.out.2, hmin.out]
        have := HR2.out
        rw [HH.out.fc] at this
        exact RndOut.of_own hop.out this
      · have d2 : decide (16 < 2 * s.patience) = false := decide_eq_false t2
        have hmin : Hid (min (2 * s.patience) 16 = 2 * s.patience) := by rw [Hid]; omega
        go_enter Try.func27, Try.ntmps27
        go_wp2
        go_quiet (fail)
        go_wp2_with fail
        have hch : Chg (fun k => k = g) w ((((w.setCell ⟨g, 4, none⟩ (.int .i64 (s.waited + 1))).drewN nq).setCell ⟨g, 4, none⟩ (.int .i64 0)).setCell ⟨g, 5, none⟩ (.int .i64 (2 * s.patience))) := ((((Chg.refl (fun k => k = g) w).setCell (p := ⟨g, 4, none⟩) (fun _ => rfl) _).drewN nq).setCell (p := ⟨g, 4, none⟩) (fun _ => rfl) _).setCell (p := ⟨g, 5, none⟩) (fun _ => rfl) _
        have hA := rwait_pack (x := 0) (y := 2 * s.patience) HH.out hch ((((HH.out.blk.set_ 4 _).drewN nq).set_ 4 _).set_ 5 _)
        have hop := Lib.hid (HH.out.op hA hch)
        have hown := Lib.hid (copy27_any fp B nf cf _ (hA.fo.own.sl Pc.cells_len) (fun p hp => (hA.fo.ok p hp).rd) (by rw [Hfl.out]; omega) Hnf.out.1)
        clear hA hch
        generalize (((w.setCell ⟨g, 4, none⟩ (.int .i64 (s.waited + 1))).drewN nq).setCell ⟨g, 4, none⟩ (.int .i64 0)).setCell ⟨g, 5, none⟩ (.int .i64 (2 * s.patience)) = w1 at *
        refine (hown.out).mono ?_
        rintro e w' ⟨v, ps, rfl, ho1, ho2, ho3⟩
        have HR2 := Lib.hid (show RetP27 w1 (fp.map Pc.core) (.returned v) w' from ⟨v, ps, rfl, ho1, ho2, ho3⟩)
        clear ho1 ho2 ho3
        go_wp2
        go_ret
        rw [he.out.1, he.out.2, hmin.out]
        have := HR2.out
        rw [HH.out.fc] at this
        exact RndOut.of_own hop.out this
end Go.Proofs.Ytiljpbncfofnhaa.Send
