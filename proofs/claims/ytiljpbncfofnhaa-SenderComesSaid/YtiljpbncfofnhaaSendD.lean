/- sender: Ack, Tick, Send of the program. -/
import Derived.Test.YtiljpbncfofnhaaSendC
import Derived.Outline
import Derived.BigQuiet
import Derived.Deep.QuietTactic
import Derived.Deep.RegionWith
import Derived.Deep.RegionHeld3
import Derived.Deep.DrawnRows
import Derived.Deep.LoopGhost
import Derived.Deep.DeepCutAuto
import Derived.Laws.EntriesVeiled
import Derived.BigRegion
import Derived.StillTailTactics
namespace Go.Proofs.Ytiljpbncfofnhaa.Send
open Go.RowKit Go.ChangeShapes Go.WideShapes Go.ChangeAt
set_option linter.unusedVariables false
set_option linter.unusedSimpArgs false
attribute [local go_sem ↓] Go.wp_at_zero Go.wp_at_succ


def St.after (s : St) (k : Nat) : St := ⟨s.fl.drop k, s.wt, s.acked + k, 0, 2⟩
def ackB (s : St) (seq : Int) : Bool := decide (seq < 0) || decide ((s.acked : Int) + s.fl.length < seq)
def ackS (s : St) (seq : Int) : St := if ackB s seq then s else if (s.acked : Int) < seq then St.after s (seq.toNat - s.acked) else s
def ackE (s : St) (seq : Int) : Int := if ackB s seq then 2 else 0

theorem snd_drew {w : World} {g : Nat} {F : Nat → Prop} {s : St} (h : Snd w g F s) (n : Nat) : SndOp w g F s (w.drewN n) :=
  ⟨F, h.chg ((Chg.refl (fun _ => False) w).drewN n) (fun _ _ h => h), (Chg.refl F w).drewN n, fun k hk => .inl hk⟩

theorem PcOwn.other {F : Nat → Prop} {w w' : World} {t T : TypeId} {v : Value} {ps : List Pc} {g : Nat} {cs : Array Value} (h : PcOwn F w t v ps) (hc : Chg (fun k => k = g) w w') (hg : Blk w g T cs) (h1 : t ≠ T) (h2 : 5 ≠ T) : PcOwn F w' t v ps :=
  ⟨h.own.chg hc (fun k hk hs => by subst hs; exact h.own.apart hg h1 hk), h.blk, fun p hp => ⟨(h.ok p hp).1.chg hc (fun k hk hs => by subst hs; exact (h.ok p hp).1.apart hg h2 hk), (h.ok p hp).2⟩, h.fp⟩
theorem PcOwn.cut {F : Nat → Prop} {w : World} {t : TypeId} {A : Option Addr} {n cap : Nat} {ps : List Pc} (h : PcOwn F w t (.slice A n cap) ps) (k : Nat) (hk : k ≤ ps.length) : PcOwn F w t (.slice (cutA A cap k 3) (n - k) (cap - k)) (ps.drop k) :=
  ⟨h.own.cut Pc.cells_len k hk, fun i hi => h.blk i (by rw [cutA_block, own_block A _ _ n cap] at hi; exact hi), fun p hp => h.ok p (List.mem_of_mem_drop hp), fun p hp => h.fp p (List.mem_of_mem_drop hp)⟩
theorem PcOwn.take {F : Nat → Prop} {w : World} {t : TypeId} {A : Option Addr} {n cap : Nat} {ps : List Pc} (h : PcOwn F w t (.slice A n cap) ps) (k cap' : Nat) (hk : k ≤ ps.length) (hk' : k ≤ cap') (hc : cap' ≤ cap) : PcOwn F w t (.slice A k cap') (ps.take k) :=
  ⟨h.own.take Pc.cells_len k cap' hk hk' hc, fun i hi => h.blk i (by rw [own_block A _ _ n cap] at hi; exact hi), fun p hp => h.ok p (List.mem_of_mem_take hp), fun p hp => h.fp p (List.mem_of_mem_take hp)⟩
theorem cut_sep {A B : Option Addr} {n cap cap' m c : Nat} (h : ∀ k, (Value.slice A n cap).ownBlock = some k → (Value.slice B m c).ownBlock ≠ some k) (k : Nat) (n2 c2 : Nat) : ∀ i, (Value.slice (cutA A cap' k 3) n2 c2).ownBlock = some i → (Value.slice B m c).ownBlock ≠ some i := fun i hi => h i (by rw [cutA_block, own_block A _ _ n cap] at hi; exact hi)

theorem ack_pack {w w2 w' : World} {g : Nat} {F : Nat → Prop} {s : St} {wv : Value} {B : Option Addr} {nf cf k : Nat} {wp fp : List Pc} (h : SndAt w g F s wv (.slice B nf cf) wp fp) (hk : k ≤ s.fl.length)
    (hw : Chg (fun k => k = g) w w2) (hb : Blk w' g 96 (mkS wv (.slice (cutA B cf k 3) (nf - k) (cf - k)) ((s.acked + s.fl.length + s.wt.length : Nat) : Int) ((s.acked : Int) + (k : Int)) 0 2)) (hc : Chg (fun k => k = g) w2 w') : SndOp w g F (s.after k) w' := by
  have hch : Chg (fun k => k = g) w w' := hw.trans hc (fun i _ h => h)
  have hkf : k ≤ fp.length := by rw [h.flen]; exact hk
  refine ⟨F, ⟨wv, _, wp, fp.drop k, ⟨?_, h.fg, fun i hi => Nat.lt_of_lt_of_le (h.lt i hi) hch.size, h.wo.other hch h.blk (by decide) (by decide), (h.fo.other hch h.blk (by decide) (by decide)).cut k hkf, ?_, ?_, ?_⟩⟩, hch.mono (fun i _ hi => hi ▸ h.fg), fun i hi => .inl hi⟩
  · refine cast (congrArg (Blk w' g 96) ?_) hb
    simp only [St.after, mkS]
    have e1 : ((s.acked + s.fl.length + s.wt.length : Nat) : Int) = ((s.acked + k + (s.fl.drop k).length + s.wt.length : Nat) : Int) := by rw [List.length_drop]; congr 1; omega
    have e2 : (s.acked : Int) + (k : Int) = ((s.acked + k : Nat) : Int) := by omega
    rw [e1, e2]
  · intro i hi he
    rw [cutA_block, own_block B _ _ nf cf] at he
    exact h.sep i hi he
  · simp only [St.after]
    rw [h.wc, List.length_drop]
    congr 1; omega
  · simp only [St.after]
    rw [List.map_drop, h.fc, numd_drop _ _ _ hk]

set_option maxHeartbeats 1000000 in
theorem ack_any (w : World) (g : Nat) (F : Nat → Prop) (s : St) (seq : Int) (h : Snd w g F s) (hs : s.Ok) (h1 : -9223372036854775808 ≤ seq) (h2 : seq ≤ 9223372036854775807) :
    Calls Try.prog 24 #[.pointer (some ⟨g, 0, none⟩), .int .i64 seq] w fun e w' => e = .returned (.int .i64 (ackE s seq)) ∧ SndOp w g F (ackS s seq) w' := by
  obtain ⟨wv, fv, wp, fp, h⟩ := h
  obtain ⟨B, nf, cf, rfl, hnf, hle, hmx, hnil⟩ := h.fo.own.form
  have hfl : nf = s.fl.length := hnf.out.trans h.flen
  have b1 := hs.fl
  have b2 := hs.all
  have c0 : w.cell? ⟨g, 0, none⟩ = some (.bool true) := h.blk.cell 0
  have c2 : w.cell? ⟨g, 2, none⟩ = some (.slice B nf cf) := h.blk.cell 2
  have c4 : w.cell? ⟨g, 4, none⟩ = some (.int .i64 (s.acked : Int)) := h.blk.cell 4
  have f2 := h.blk.free 2
  have f4 := h.blk.free 4
  have w1 : IntKind.i64.wrap ((s.acked : Int) + (nf : Int)) = (s.acked : Int) + (nf : Int) := IntWalk.i64_in _ (by omega)
  have HH := Lib.hid h
  have Hfl := Lib.hid hfl
  clear h hle hmx hnil hnf hfl
  by_cases t1 : seq < 0
  · have he := Lib.hid (show ackE s seq = 2 ∧ ackS s seq = s by simp [ackE, ackS, ackB, t1])
    have d1 : decide (seq < 0) = true := by simpa using t1
    go_enter Try.func24, Try.ntmps24
    go_wp2_with (go_at_call 60; refine (none_made g 0 _ c0).mono ?_; rintro e w' ⟨rfl, rfl⟩)
    go_quiet (fail)
    go_wp2
    go_ret
    exact ⟨ret_int he.out.1.symm, by rw [he.out.2]; exact snd_drew ⟨_, _, _, _, HH.out⟩ _⟩
  · by_cases t2 : (s.acked : Int) + (nf : Int) < seq
    · have he := Lib.hid (show ackE s seq = 2 ∧ ackS s seq = s by rw [Hfl.out] at t2; simp [ackE, ackS, ackB, t2])
      have d1 : decide (seq < 0) = false := by simpa using t1
      have d2 : decide ((s.acked : Int) + (nf : Int) < seq) = true := by simpa using t2
      go_enter Try.func24, Try.ntmps24
      go_wp2_with (go_at_call 60; refine (none_made g 0 _ c0).mono ?_; rintro e w' ⟨rfl, rfl⟩)
      go_quiet (fail)
      go_wp2
      go_ret
      exact ⟨ret_int he.out.1.symm, by rw [he.out.2]; exact snd_drew ⟨_, _, _, _, HH.out⟩ _⟩
    · by_cases t3 : (s.acked : Int) < seq
      · obtain ⟨k, hk⟩ : ∃ k : Nat, seq = (s.acked : Int) + k := ⟨(seq - s.acked).toNat, by omega⟩
        have hkn : k ≤ nf := by omega
        have w2 : IntKind.i64.wrap (seq - (s.acked : Int)) = (k : Int) := by rw [IntWalk.i64_in _ (by omega)]; omega
        have s2 : ∀ W, (Instr.slice 40 (.slice B nf cf) (some (.int .i64 (k : Int))) none none).run Try.prog W = .ok (.slice (cutA B cf k 3) (nf - k) (cf - k)) W := fun W => by
          have := pslo B nf cf (k : Int) (by omega) (by omega) W
          simpa using this
        have he := Lib.hid (show ackE s seq = 0 ∧ ackS s seq = s.after k by
          rw [Hfl.out] at t2
          have hb : ackB s seq = false := by simp [ackB]; omega
          simp only [ackE, ackS, hb, if_pos t3]
          refine ⟨rfl, ?_⟩
          rw [show seq.toNat - s.acked = k from by omega]; rfl)
        have hkl : k ≤ s.fl.length := by rw [← Hfl.out]; exact hkn
        have Hk := Lib.hid hk
        clear hk
        have d1 : decide (seq < 0) = false := by simpa using t1
        have d2 : decide ((s.acked : Int) + (nf : Int) < seq) = false := by simpa using t2
        go_enter Try.func24, Try.ntmps24
        go_wp2_with (go_at_call 60; refine (none_made g 0 _ c0).mono ?_; rintro e w' ⟨rfl, rfl⟩)
        go_quiet (fail)
        go_wp2
        go_region
        go_wp2_with fail
        refine (calm_any _ g wv _ _ seq _ _ (((HH.out.blk.drewN (nq + 1)).set_ 2 _).set_ 4 _)).mono ?_
        rintro e w' ⟨rfl, hb, hc⟩
        go_wp2
        go_ret
        exact ⟨ret_int he.out.1.symm, by rw [he.out.2]; exact ack_pack HH.out hkl ((((Chg.refl (fun k => k = g) w).drewN (nq + 1)).setCell (p := ⟨g, 2, none⟩) (fun _ => rfl) _).setCell (p := ⟨g, 4, none⟩) (fun _ => rfl) _) (by rw [← Hk.out]; exact hb) hc⟩
      · have he := Lib.hid (show ackE s seq = 0 ∧ ackS s seq = s by
          rw [Hfl.out] at t2
          have hb : ackB s seq = false := by simp [ackB]; omega
          simp only [ackE, ackS, hb, if_neg t3]; exact ⟨rfl, rfl⟩)
        have d1 : decide (seq < 0) = false := by simpa using t1
        have d2 : decide ((s.acked : Int) + (nf : Int) < seq) = false := by simpa using t2
        go_enter Try.func24, Try.ntmps24
        go_wp2_with (go_at_call 60; refine (none_made g 0 _ c0).mono ?_; rintro e w' ⟨rfl, rfl⟩)
        go_quiet (fail)
        go_wp2
        go_ret
        exact ⟨ret_int he.out.1.symm, by rw [he.out.2]; exact snd_drew ⟨_, _, _, _, HH.out⟩ _⟩
end Go.Proofs.Ytiljpbncfofnhaa.Send
