/- sender: Tick, Send of the program. -/
import Derived.Test.YtiljpbncfofnhaaSendD
import Derived.Outline
import Derived.BigQuiet
import Derived.Deep.QuietTactic
import Derived.Deep.RegionWith
import Derived.Deep.RegionHeld3
import Derived.Deep.DrawnRows
import Derived.Deep.LoopGhost
import Derived.Deep.DeepCutAuto
import Derived.Laws.EntriesVeiled
import Derived.BigRegion
import Derived.WalkLawsBesides
import Derived.Deep.RegionLaw
namespace Go.Proofs.Ytiljpbncfofnhaa.Send
open Go.RowKit Go.ChangeShapes Go.WideShapes Go.ChangeAt
set_option linter.unusedVariables false
set_option linter.unusedSimpArgs false
attribute [local go_sem ↓] Go.wp_at_zero Go.wp_at_succ

/-- what an act on a sender that tells pieces leaves -/
def SndOut (w : World) (g : Nat) (F : Nat → Prop) (s' : St) (out : List (Int × Bool × List UInt8)) (r : Ending) (w' : World) : Prop :=
  ∃ (F' R : Nat → Prop) (v : Value) (ps : List Pc), r = .returned v ∧ Snd w' g F' s' ∧ PcOwn R w' 57 v ps ∧ ps.map Pc.core = out ∧ (∀ k, R k → w.heap.size ≤ k ∧ ¬ F' k) ∧ Chg F w w' ∧ (∀ k, F' k → F k ∨ w.heap.size ≤ k) ∧ Apart ps

theorem SndOut.none_ {w w' : World} {g : Nat} {F : Nat → Prop} {s' : St} (h : SndOp w g F s' w') : SndOut w g F s' [] (.returned (.slice none 0 0)) w' := by
  obtain ⟨F', h1, h2, h3⟩ := h
  exact ⟨F', fun _ => False, _, [], rfl, h1, ⟨OwnA.nil_ _ _ _ _, fun k hk => (by cases hk), fun p hp => (by cases hp), fun p hp => (by cases hp)⟩, rfl, fun k hk => hk.elim, h2, h3, fun i j x y _ hx => by simp at hx⟩
theorem SndOut.of_own {w w1 w' : World} {g : Nat} {F : Nat → Prop} {s' : St} {out : List (Int × Bool × List UInt8)} {r : Ending} (h : SndOp w g F s' w1) (hr : RetPc w1 57 out r w') : SndOut w g F s' out r w' := by
  obtain ⟨F', h1, h2, h3⟩ := h
  obtain ⟨v, ps, rfl, h4, h5, h6, h7⟩ := hr
  obtain ⟨wv, fv, wp, fp, h1⟩ := h1
  refine ⟨F', _, v, ps, rfl, ⟨wv, fv, wp, fp, h1.chg (Chg.of_ext (S := fun _ => False) h6) (fun _ _ h => h)⟩, h4, h5, fun k hk => ⟨Nat.le_trans h2.size hk, fun hf => ?_⟩, h2.trans (T := fun _ => False) (Chg.of_ext h6) (fun _ _ h => h.elim), h3, h7⟩
  have := h1.lt k hf
  have hk' : w1.heap.size ≤ k := hk
  omega

def tickS (s : St) : St := if s.fl = [] then s else if s.waited + 1 < s.patience then { s with waited := s.waited + 1 } else { s with waited := 0, patience := min (2 * s.patience) 16 }
def tickO (s : St) : List (Int × Bool × List UInt8) := if s.fl = [] then [] else if s.waited + 1 < s.patience then [] else numd s.acked s.fl

/-- another state of what waited, at the same pieces -/
theorem wait_pack {w w' : World} {g : Nat} {F : Nat → Prop} {s : St} {wv fv : Value} {wp fp : List Pc} {x y : Int} (h : SndAt w g F s wv fv wp fp) (hc : Chg (fun k => k = g) w w')
    (hb : Blk w' g 96 (mkS wv fv ((s.acked + s.fl.length + s.wt.length : Nat) : Int) (s.acked : Int) x y)) : SndAt w' g F { s with waited := x, patience := y } wv fv wp fp :=
  ⟨hb, h.fg, fun i hi => Nat.lt_of_lt_of_le (h.lt i hi) hc.size, h.wo.other hc h.blk (by decide) (by decide), h.fo.other hc h.blk (by decide) (by decide), h.sep, h.wc, h.fc⟩
theorem SndAt.op {w w' : World} {g : Nat} {F : Nat → Prop} {s s' : St} {wv fv : Value} {wp fp : List Pc} (h : SndAt w g F s wv fv wp fp) (h' : SndAt w' g F s' wv fv wp fp) (hc : Chg (fun k => k = g) w w') : SndOp w g F s' w' :=
  ⟨F, ⟨_, _, _, _, h'⟩, hc.mono (fun i _ hi => hi ▸ h.fg), fun i hi => .inl hi⟩

set_option maxHeartbeats 1000000 in
theorem tick_any (w : World) (g : Nat) (F : Nat → Prop) (s : St) (h : Snd w g F s) (hs : s.Ok) :
    Calls Try.prog 26 #[.pointer (some ⟨g, 0, none⟩)] w (SndOut w g F (tickS s) (tickO s)) := by
  obtain ⟨wv, fv, wp, fp, h⟩ := h
  obtain ⟨B, nf, cf, rfl, hnf, hle, hmx, hnil⟩ := h.fo.own.form
  have hfl : nf = s.fl.length := hnf.out.trans h.flen
  have b1 := hs.fl
  have b3 := hs.w0
  have b4 := hs.w1
  have b5 := hs.p0
  have b6 := hs.p1
  have c0 : w.cell? ⟨g, 0, none⟩ = some (.bool true) := h.blk.cell 0
  have c2 : w.cell? ⟨g, 2, none⟩ = some (.slice B nf cf) := h.blk.cell 2
  have c5 : w.cell? ⟨g, 5, none⟩ = some (.int .i64 s.waited) := h.blk.cell 5
  have c6 : w.cell? ⟨g, 6, none⟩ = some (.int .i64 s.patience) := h.blk.cell 6
  have f5 := h.blk.free 5
  have f6 := h.blk.free 6
  have e1 : IntKind.i64.wrap (s.waited + 1) = s.waited + 1 := IntWalk.i64_in _ (by omega)
  have HH := Lib.hid h
  have Hfl := Lib.hid hfl
  have Hnf := Lib.hid (And.intro hnf (And.intro hle hnil))
  clear h hle hmx hnil hnf hfl
  by_cases t0 : nf = 0
  · have he := Lib.hid (show tickS s = s ∧ tickO s = [] by
      have : s.fl = [] := List.eq_nil_of_length_eq_zero (by rw [← Hfl.out]; exact t0)
      simp [tickS, tickO, this])
    subst t0
    go_enter Try.func26, Try.ntmps26
    go_wp2_with (go_at_call 60; refine (none_made g 0 _ c0).mono ?_; rintro e w' ⟨rfl, rfl⟩)
    go_ret
    rw [he.out.1, he.out.2]
    exact SndOut.none_ (snd_drew ⟨_, _, _, _, HH.out⟩ 0)
  · have ht0 : ((nf : Int) == 0) = false := by simp; omega
    have hne : s.fl ≠ [] := fun e => t0 (by rw [Hfl.out, e]; rfl)
    by_cases t1 : s.waited + 1 < s.patience
    · have he := Lib.hid (show tickS s = { s with waited := s.waited + 1 } ∧ tickO s = [] by simp [tickS, tickO, hne, t1])
      have d1 : decide (s.waited + 1 < s.patience) = true := by simpa using t1
      clear hne
      go_enter Try.func26, Try.ntmps26
      go_wp2_with (go_at_call 60; refine (none_made g 0 _ c0).mono ?_; rintro e w' ⟨rfl, rfl⟩)
      go_quiet (fail)
      go_wp2
      go_ret
      rw [he.out.1, he.out.2]
      have hch : Chg (fun k => k = g) w ((w.setCell ⟨g, 5, none⟩ (.int .i64 (s.waited + 1))).drewN nq) := ((Chg.refl (fun k => k = g) w).setCell (p := ⟨g, 5, none⟩) (fun _ => rfl) _).drewN nq
      exact SndOut.none_ (HH.out.op (wait_pack HH.out hch ((HH.out.blk.set_ 5 _).drewN nq)) hch)
    · have he := Lib.hid (show tickS s = { s with waited := 0, patience := min (2 * s.patience) 16 } ∧ tickO s = numd s.acked s.fl by simp [tickS, tickO, hne, t1])
      have d1 : decide (s.waited + 1 < s.patience) = false := by simpa using t1
      have e2 : IntKind.i64.wrap (2 * s.patience) = 2 * s.patience := IntWalk.i64_in _ (by omega)
      clear hne
      go_enter Try.func26, Try.ntmps26
      go_wp2_with (go_at_call 60; refine (none_made g 0 _ c0).mono ?_; rintro e w' ⟨rfl, rfl⟩)
      go_quiet (fail)
      go_wp2_with fail
      · have hmin : min (2 * s.patience) 16 = 16 := by omega
        have hch : Chg (fun k => k = g) w ((((w.setCell ⟨g, 5, none⟩ (.int .i64 (s.waited + 1))).drewN nq).setCell ⟨g, 5, none⟩ (.int .i64 0)).setCell ⟨g, 6, none⟩ (.int .i64 (16))) :=
          ((((Chg.refl (fun k => k = g) w).setCell (p := ⟨g, 5, none⟩) (fun _ => rfl) _).drewN nq).setCell (p := ⟨g, 5, none⟩) (fun _ => rfl) _).setCell (p := ⟨g, 6, none⟩) (fun _ => rfl) _
        have hA := wait_pack (x := 0) (y := 16) HH.out hch ((((HH.out.blk.set_ 5 _).drewN nq).set_ 5 _).set_ 6 _)
        have hop := Lib.hid (HH.out.op hA hch)
        have hown := Lib.hid (own_any fp B nf cf _ (hA.fo.own.sl Pc.cells_len) (fun p hp => (hA.fo.ok p hp).rd) (by rw [HH.out.flen]; omega) Hnf.out.1 Hnf.out.2.2 Hnf.out.2.1)
        clear hA hch
        generalize (((w.setCell ⟨g, 5, none⟩ (.int .i64 (s.waited + 1))).drewN nq).setCell ⟨g, 5, none⟩ (.int .i64 0)).setCell ⟨g, 6, none⟩ (.int .i64 (16)) = w1 at *
        refine (hown.out).mono ?_
        rintro e w' ⟨v, ps, rfl, ho1, ho2, ho3⟩
        have HR := Lib.hid (show RetPc w1 57 (fp.map Pc.core) (.returned v) w' from ⟨v, ps, rfl, ho1, ho2, ho3⟩)
        clear ho1 ho2 ho3
        go_wp2
        go_ret
        rw [he.out.1, he.out.2, hmin]
        have := HR.out
        rw [HH.out.fc] at this
        exact SndOut.of_own hop.out this
      · have hmin : min (2 * s.patience) 16 = 2 * s.patience := by omega
        have hch : Chg (fun k => k = g) w ((((w.setCell ⟨g, 5, none⟩ (.int .i64 (s.waited + 1))).drewN nq).setCell ⟨g, 5, none⟩ (.int .i64 0)).setCell ⟨g, 6, none⟩ (.int .i64 (2 * s.patience))) :=
          ((((Chg.refl (fun k => k = g) w).setCell (p := ⟨g, 5, none⟩) (fun _ => rfl) _).drewN nq).setCell (p := ⟨g, 5, none⟩) (fun _ => rfl) _).setCell (p := ⟨g, 6, none⟩) (fun _ => rfl) _
        have hA := wait_pack (x := 0) (y := 2 * s.patience) HH.out hch ((((HH.out.blk.set_ 5 _).drewN nq).set_ 5 _).set_ 6 _)
        have hop := Lib.hid (HH.out.op hA hch)
        have hown := Lib.hid (own_any fp B nf cf _ (hA.fo.own.sl Pc.cells_len) (fun p hp => (hA.fo.ok p hp).rd) (by rw [HH.out.flen]; omega) Hnf.out.1 Hnf.out.2.2 Hnf.out.2.1)
        clear hA hch
        generalize (((w.setCell ⟨g, 5, none⟩ (.int .i64 (s.waited + 1))).drewN nq).setCell ⟨g, 5, none⟩ (.int .i64 0)).setCell ⟨g, 6, none⟩ (.int .i64 (2 * s.patience)) = w1 at *
        refine (hown.out).mono ?_
        rintro e w' ⟨v, ps, rfl, ho1, ho2, ho3⟩
        have HR := Lib.hid (show RetPc w1 57 (fp.map Pc.core) (.returned v) w' from ⟨v, ps, rfl, ho1, ho2, ho3⟩)
        clear ho1 ho2 ho3
        go_wp2
        go_ret
        rw [he.out.1, he.out.2, hmin]
        have := HR.out
        rw [HH.out.fc] at this
        exact SndOut.of_own hop.out this
end Go.Proofs.Ytiljpbncfofnhaa.Send
