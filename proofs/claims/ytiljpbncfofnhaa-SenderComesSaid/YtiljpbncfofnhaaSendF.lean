/- sender: Send of the program. -/
import Derived.Test.YtiljpbncfofnhaaSendE
import Derived.Outline
import Derived.BigQuiet
import Derived.Deep.QuietTactic
import Derived.Deep.RegionWith
import Derived.Deep.RegionHeld3
import Derived.Deep.DrawnRows
import Derived.Deep.LoopGhost
import Derived.Deep.DeepCutAuto
import Derived.Laws.EntriesVeiled
import Derived.BigRegion
import Derived.WalkLawsBesides
import Derived.Deep.RegionLaw
namespace Go.Proofs.Ytiljpbncfofnhaa.Send
open Go.RowKit Go.ChangeShapes Go.WideShapes Go.ChangeAt
set_option linter.unusedVariables false
set_option linter.unusedSimpArgs false
attribute [local go_sem ↓] Go.wp_at_zero Go.wp_at_succ

def sendK (s : St) : Nat := min (4 - s.fl.length) s.wt.length
def calmS (s : St) : St := if s.fl = [] then { s with waited := 0, patience := 2 } else s
def sendS (s : St) : St := { calmS s with fl := s.fl ++ s.wt.take (sendK s), wt := s.wt.drop (sendK s) }
def sendO (s : St) : List (Int × Bool × List UInt8) := numd (s.acked + s.fl.length) (s.wt.take (sendK s))

theorem send_facts {w W : World} {g : Nat} {F : Nat → Prop} {s : St} {A B : Option Addr} {nw cw nf cf k : Nat} {wp fp : List Pc} (h : SndAt w g F s (.slice A nw cw) (.slice B nf cf) wp fp) (hc : Chg (fun k => k = g) w W) (hk : k ≤ s.wt.length) :
    PcOwn F W 57 (.slice B nf cf) fp ∧ PcOwn F W 57 (.slice A k k) (wp.take k) ∧ PcOwn F W 57 (.slice (cutA A cw k 3) (nw - k) (cw - k)) (wp.drop k) := by
  have hkw : k ≤ wp.length := by rw [h.wlen]; exact hk
  have hw := h.wo.other hc h.blk (by decide) (by decide)
  obtain ⟨A2, n2, c2, hv, hn2, hle, hmx, _⟩ := hw.own.form
  injection hv with _ hvn hvc
  refine ⟨h.fo.other hc h.blk (by decide) (by decide), hw.take k k hkw (Nat.le_refl _) (by have := hn2.out; omega), hw.cut k hkw⟩

set_option maxHeartbeats 1000000 in
/-- behind an append onto another slice -/
theorem PcOwn.chgP {F : Nat → Prop} {w w' : World} {t t' : TypeId} {v v2 : Value} {ps : List Pc} {α : Type} {c : Nat} {enc : α → List Value} {l : List α} (h : PcOwn F w t v ps) (h2 : OwnA w t' c enc v2 l) (hc : Chg (fun k => v2.ownBlock = some k) w w')
    (hs : ∀ k, v.ownBlock = some k → v2.ownBlock ≠ some k) (ht : 5 ≠ t') : PcOwn F w' t v ps :=
  ⟨h.own.chg hc (fun k hk => hs k hk), h.blk, fun p hp => ⟨(h.ok p hp).1.chg hc (fun k hk => (h.ok p hp).1.apartA h2 ht hk), (h.ok p hp).2⟩, h.fp⟩

theorem send_pack {w W w2 w3 : World} {g : Nat} {F : Nat → Prop} {s : St} {A B A' : Option Addr} {nw cw nf cf n' c' k : Nat} {x y : Int} {wp fp : List Pc} (h : SndAt w g F s (.slice A nw cw) (.slice B nf cf) wp fp) (hc : Chg (fun k => k = g) w W) (hk : k ≤ s.wt.length)
    (hW : W.heap.size = w.heap.size)
    (hb : Blk w3 g 96 (mkS (.slice (cutA A cw k 3) (nw - k) (cw - k)) (.slice A' n' c') ((s.acked + s.fl.length + s.wt.length : Nat) : Int) (s.acked : Int) x y))
    (hown : OwnA w2 57 3 Pc.cells (.slice A' n' c') (fp ++ wp.take k)) (hch : Chg (fun k => (Value.slice B nf cf).ownBlock = some k) W w2)
    (hat : (Value.slice A' n' c').ownBlock = (Value.slice B nf cf).ownBlock ∨ (Value.slice A' n' c').ownBlock = some W.heap.size) (h3 : Chg (fun k => k = g) w2 w3) (hb2 : ∃ cs, Blk w2 g 96 cs) :
    SndAt w3 g (fun i => F i ∨ (w.heap.size ≤ i ∧ i < w3.heap.size)) { s with fl := s.fl ++ s.wt.take k, wt := s.wt.drop k, waited := x, patience := y } (.slice (cutA A cw k 3) (nw - k) (cw - k)) (.slice A' n' c') (wp.drop k) (fp ++ wp.take k) ∧
    Chg F w w3 := by
  obtain ⟨cs2, hb2⟩ := hb2
  obtain ⟨hF1, hF2, hF3⟩ := send_facts h hc hk
  have hsz := hch.size
  have hsz3 := h3.size
  have hmono : ∀ i, F i → (F i ∨ (w.heap.size ≤ i ∧ i < w3.heap.size)) := fun i hi => .inl hi
  have p1 := (hF1.chgP hF1.own hch)
  have hsep3 := cut_sep (cap' := cw) h.sep k (nw - k) (cw - k)
  have q3 := (hF3.chgP hF1.own hch hsep3 (by decide)).other h3 hb2 (by decide) (by decide)
  have okf : ∀ p ∈ fp ++ wp.take k, p.Ok w3 ∧ ∀ i, blockOf p.A = some i → F i := fun p hp => by
    have key : ∀ ps v, PcOwn F W 57 v ps → p ∈ ps → p.Ok w3 ∧ ∀ i, blockOf p.A = some i → F i := fun ps v hv hp => by
      have o := hv.ok p hp
      have o2 : p.Ok w2 := ⟨o.1.chg hch (fun i hi => o.1.apartA hF1.own (by decide) hi), o.2⟩
      exact ⟨⟨o2.1.chg h3 (fun i hi hs => by subst hs; exact o2.1.apart hb2 (by decide) hi), o2.2⟩, hv.fp p hp⟩
    rcases List.mem_append.1 hp with hp | hp
    · exact key _ _ hF1 hp
    · exact key _ _ hF2 hp
  have hgF := h.fg
  refine ⟨⟨?_, .inl h.fg, fun i hi => ?_, q3.mono hmono, ⟨hown.chg h3 (fun i hi hs => by subst hs; exact hown.apart hb2 (by decide) hi), fun i hi => ?_, fun p hp => (okf p hp).1, fun p hp i hi => .inl ((okf p hp).2 i hi)⟩, fun i hi he => ?_, ?_, ?_⟩, ?_⟩
  · refine cast (congrArg (Blk w3 g 96) ?_) hb
    simp only [mkS]
    have e1 : ((s.acked + s.fl.length + s.wt.length : Nat) : Int) = ((s.acked + (s.fl ++ s.wt.take k).length + (s.wt.drop k).length : Nat) : Int) := by
      congr 1; rw [List.length_append, List.length_take, List.length_drop]; omega
    rw [e1]
  · rcases hi with hi | hi
    · have := h.lt i hi; omega
    · exact hi.2
  · rcases hat with hat | hat
    · exact .inl (hF1.blk i (hat ▸ hi))
    · rw [hat] at hi; injection hi with hi
      have := hown.lt (g := i) (by rw [hat, hi])
      right; omega
  · rcases hat with hat | hat
    · rw [hat] at he; exact hsep3 i hi he
    · rw [hat] at he; injection he with he
      have := hF3.own.lt hi
      omega
  · simp only [List.length_append, List.length_take]
    rw [List.map_drop, h.wc, numd_drop _ _ _ hk]
    congr 1; omega
  · simp only [List.map_append, List.map_take]
    rw [h.fc, h.wc, numd_take, numd_append]
  · have a1 : Chg F w W := hc.mono (fun i _ hi => hi ▸ hgF)
    have a2 : Chg F W w2 := hch.mono (fun i _ hi => hF1.blk i hi)
    have a3 : Chg F w2 w3 := h3.mono (fun i _ hi => hi ▸ hgF)
    exact (a1.trans a2 (fun i _ h => h)).trans a3 (fun i _ h => h)

set_option maxRecDepth 100000 in
set_option maxHeartbeats 1000000 in
theorem send_full (w : World) (g : Nat) (F : Nat → Prop) (s : St) (A B : Option Addr) (nw cw nf cf : Nat) (wp fp : List Pc) (h : SndAt w g F s (.slice A nw cw) (.slice B nf cf) wp fp) (hs : s.Ok) (hne : ¬ nf = 0) :
    Calls Try.prog 22 #[.pointer (some ⟨g, 0, none⟩)] w (SndOut w g F (sendS s) (sendO s)) := by
  obtain ⟨_, _, _, hv, hnf, hle, hmx, hnil⟩ := h.fo.own.form
  injection hv with e1 e2 e3; subst e1; subst e2; subst e3
  obtain ⟨_, _, _, hv, hnw, hlew, hmxw, hnilw⟩ := h.wo.own.form
  injection hv with e1 e2 e3; subst e1; subst e2; subst e3
  have hfl : nf = s.fl.length := hnf.out.trans h.flen
  have hwl : nw = s.wt.length := hnw.out.trans h.wlen
  have b1 := hs.fl
  have b2 := hs.all
  have c0 : w.cell? ⟨g, 0, none⟩ = some (.bool true) := h.blk.cell 0
  have c2 : w.cell? ⟨g, 2, none⟩ = some (.slice B nf cf) := h.blk.cell 2
  have f2 := h.blk.free 2
  have ht0 : ((nf : Int) == 0) = false := by simp; omega
  have e1 : IntKind.i64.wrap (4 - (nf : Int)) = 4 - (nf : Int) := IntWalk.i64_in _ (by omega)
  obtain ⟨k, hk⟩ : ∃ k, Hid (k = min (4 - (nf : Int)).toNat nw) := ⟨_, rfl⟩
  have hkw : k ≤ s.wt.length := by rw [hk.out]; omega
  obtain ⟨i0, hi, hz, hz1, hz2⟩ := info_parts pcCloneInfo
  have HT := Lib.hid (take_any w.drew g A nw cw (.slice B nf cf) _ _ _ _ (4 - (nf : Int)) k h.blk.drew (by omega) hk hlew (Nat.le_trans hlew hmxw))
  have hch : Chg (fun k => k = g) w (w.drew.setCell ⟨g, 1, none⟩ (.slice (cutA A cw k 3) (nw - k) (cw - k))) := ((Chg.refl (fun k => k = g) w).drew).setCell (p := ⟨g, 1, none⟩) (fun _ => rfl) _
  have HBk : Hid (Blk (w.drew.setCell ⟨g, 1, none⟩ (.slice (cutA A cw k 3) (nw - k) (cw - k))) g 96 (mkS (.slice (cutA A cw k 3) (nw - k) (cw - k)) (.slice B nf cf) ((s.acked + s.fl.length + s.wt.length : Nat) : Int) (s.acked : Int) s.waited s.patience)) := h.blk.drew.set_ 1 _
  have hF := send_facts h hch hkw
  have HF := Lib.hid hF
  have Hln : Hid (fp.length + (wp.take k).length ≤ 8 ∧ k = (wp.take k).length) := by
    have hw := h.wlen
    have hf := h.flen
    rw [Hid, List.length_take]
    have := hk.out
    omega
  have Hfp : Hid (fp.length = nf) := by rw [Hid, h.flen, hfl]
  have HC := Lib.hid hch
  have HH := Lib.hid h
  have Hfl := Lib.hid hfl
  have Hwl := Lib.hid hwl
  clear h hle hmx hnil hnf hfl hwl hnw hlew hmxw hnilw hch hF
  go_enter Try.func22, Try.ntmps22
  go_wp2_with (go_at_call 60; refine (none_made g 0 _ c0).mono ?_; rintro e w' ⟨rfl, rfl⟩)
  go_region_law (first | (go_simp; go_at_call 65; refine (HT.out).mono ?_; rintro e w' ⟨rfl, rfl⟩; dsimp only) | (refine step_append_a _ rfl _ _ _ rfl 57 i0 _ 3 40 Try.underlying40 hi hz hz1 hz2 rfl (by decide) Pc.cells_len Pc.cells_one _ fp (by rfl) HF.out.1.own _ A (wp.take k) k k (by rfl) Hln.out.2 (HF.out.2.1.own.sl Pc.cells_len) (by have := Hln.out.1; unfold maxLen; omega) (by have := Hln.out.1; omega) ?_; intro v' w' hown' hchg hat; obtain ⟨A', n', cap', rfl, hn', hle', hmx', hnl'⟩ := hown'.form; have hb2 := HBk.out.chg hchg (fun hk => HF.out.1.own.apart HBk.out (by decide) hk); have g2 : w'.cell? ⟨g, 2, none⟩ = some (.slice B nf cf) := hb2.cell 2; have k2 := hb2.free 2; have hnn : nf ≤ n' := (by rw [hn'.out, List.length_append, Hfp.out]; omega); have s2 : ∀ W, (Instr.slice 40 (.slice A' n' cap') (some (.int .i64 (nf : Int))) none none).run Try.prog W = .ok (.slice (cutA A' cap' nf 3) (n' - nf) (cap' - nf)) W := (fun W => by simpa using pslo A' n' cap' (nf : Int) (by omega) (by omega) W); have HO := Lib.hid (And.intro hown' (And.intro hchg (And.intro hat (And.intro hn' (And.intro hle' (And.intro hnl' (And.intro hmx' hb2))))))); clear hown' hchg hat hn' hle' hmx' hnl' hb2))
  all_goals
    go_wp2_with fail
    obtain ⟨P1, P2⟩ := send_pack HH.out HC.out hkw (by simp [World.setCell]) (HO.out.2.2.2.2.2.2.2.set_ 2 (.slice A' n' cap')) HO.out.1 HO.out.2.1 HO.out.2.2.1 ((Chg.refl (fun k => k = g) w').setCell (p := ⟨g, 2, none⟩) (fun _ => rfl) (.slice A' n' cap')) ⟨_, HO.out.2.2.2.2.2.2.2⟩
    have hct := P1.fo.cut nf (by rw [List.length_append, Hfp.out]; omega)
    obtain ⟨_, _, _, hv, hcn, hcle, _, hcnil⟩ := hct.own.form
    injection hv with v1 v2 v3; subst v1; subst v2; subst v3
    have hlen := Hln.out.1
    have HW := Lib.hid (own_any ((fp ++ wp.take k).drop nf) _ _ _ _ (hct.own.sl Pc.cells_len) (fun p hp => (hct.ok p hp).rd) (by rw [List.length_drop, List.length_append]; omega) hcn hcnil hcle)
    have hop : SndOp w g F _ (w'.setCell ⟨g, 2, none⟩ (.slice A' n' cap')) := ⟨_, ⟨_, _, _, _, P1⟩, P2, fun i hi => hi.imp id (fun h => h.1)⟩
    have HP := Lib.hid hop
    clear P1 P2 hct hcn hcle hcnil hop
    generalize w'.setCell ⟨g, 2, none⟩ (.slice A' n' cap') = w3 at *
    refine (HW.out).mono ?_
    rintro e w4 ⟨v, ps, rfl, ho1, ho2, ho3⟩
    have HR := Lib.hid (show RetPc w3 57 (((fp ++ wp.take k).drop nf).map Pc.core) (.returned v) w4 from ⟨v, ps, rfl, ho1, ho2, ho3⟩)
    clear ho1 ho2 ho3
    go_wp2
    go_ret
    have hne' : s.fl ≠ [] := fun e => hne (by rw [Hfl.out, e]; rfl)
    have hkk : sendK s = k := by
      unfold sendK
      rw [hk.out, Hwl.out, Hfl.out]
      congr 1; omega
    have hout : ((fp ++ wp.take k).drop nf).map Pc.core = sendO s := by
      rw [List.drop_left' Hfp.out, List.map_take, HH.out.wc, numd_take, sendO, hkk]
    have hS : sendS s = { s with fl := s.fl ++ s.wt.take k, wt := s.wt.drop k, waited := s.waited, patience := s.patience } := by
      rw [sendS, calmS, if_neg hne', hkk]
    rw [hS, ← hout]
    exact SndOut.of_own HP.out HR.out
set_option maxRecDepth 100000 in
set_option maxHeartbeats 1000000 in
theorem send_empty (w : World) (g : Nat) (F : Nat → Prop) (s : St) (A B : Option Addr) (nw cw nf cf : Nat) (wp fp : List Pc) (h : SndAt w g F s (.slice A nw cw) (.slice B nf cf) wp fp) (hs : s.Ok) (hne : nf = 0) :
    Calls Try.prog 22 #[.pointer (some ⟨g, 0, none⟩)] w (SndOut w g F (sendS s) (sendO s)) := by
  obtain ⟨_, _, _, hv, hnf, hle, hmx, hnil⟩ := h.fo.own.form
  injection hv with e1 e2 e3; subst e1; subst e2; subst e3
  obtain ⟨_, _, _, hv, hnw, hlew, hmxw, hnilw⟩ := h.wo.own.form
  injection hv with e1 e2 e3; subst e1; subst e2; subst e3
  have hfl : nf = s.fl.length := hnf.out.trans h.flen
  have hwl : nw = s.wt.length := hnw.out.trans h.wlen
  have b1 := hs.fl
  have b2 := hs.all
  have c0 : w.cell? ⟨g, 0, none⟩ = some (.bool true) := h.blk.cell 0
  have c2 : w.cell? ⟨g, 2, none⟩ = some (.slice B nf cf) := h.blk.cell 2
  have f2 := h.blk.free 2
  have ht0 : ((nf : Int) == 0) = true := by simp; omega
  have e1 : IntKind.i64.wrap (4 - (nf : Int)) = 4 - (nf : Int) := IntWalk.i64_in _ (by omega)
  obtain ⟨k, hk⟩ : ∃ k, Hid (k = min (4 - (nf : Int)).toNat nw) := ⟨_, rfl⟩
  have hkw : k ≤ s.wt.length := by rw [hk.out]; omega
  have HQ := Lib.hid (And.intro h (And.intro hle (And.intro hmx (And.intro hnil (And.intro hnf (And.intro hfl (And.intro hwl (And.intro hnw (And.intro hlew (And.intro hmxw (And.intro hnilw hne)))))))))))
  have HCM := Lib.hid (calm_any w g _ _ _ _ _ _ h.blk)
  clear h hle hmx hnil hnf hfl hwl hnw hlew hmxw hnilw hne
  go_enter Try.func22, Try.ntmps22
  go_wp2_with (first | (go_at_call 64; refine (HCM.out).mono ?_; rintro e w0 ⟨rfl, hb0, hc0⟩; have k2 : w0.cell? ⟨g, 2, none⟩ = some (.slice B nf cf) := hb0.cell 2; have q2 := hb0.free 2; have HB0 := Lib.hid (And.intro hb0 hc0); clear hb0 hc0 c2 f2) | (go_at_call 60; refine (none_made g 0 _ c0).mono ?_; rintro e w' ⟨rfl, rfl⟩))
  obtain ⟨h, hle, hmx, hnil, hnf, hfl, hwl, hnw, hlew, hmxw, hnilw, hne⟩ := HQ.out
  have h0 := wait_pack (x := 0) (y := 2) h HB0.out.2 HB0.out.1
  obtain ⟨i0, hi, hz, hz1, hz2⟩ := info_parts pcCloneInfo
  have HT := Lib.hid (take_any w0.drew g A nw cw (.slice B nf cf) _ _ _ _ (4 - (nf : Int)) k h0.blk.drew (by omega) hk hlew (Nat.le_trans hlew hmxw))
  have hch : Chg (fun k => k = g) w0 (w0.drew.setCell ⟨g, 1, none⟩ (.slice (cutA A cw k 3) (nw - k) (cw - k))) := ((Chg.refl (fun k => k = g) w0).drew).setCell (p := ⟨g, 1, none⟩) (fun _ => rfl) _
  have HBk : Hid (Blk (w0.drew.setCell ⟨g, 1, none⟩ (.slice (cutA A cw k 3) (nw - k) (cw - k))) g 96 (mkS (.slice (cutA A cw k 3) (nw - k) (cw - k)) (.slice B nf cf) ((s.acked + s.fl.length + s.wt.length : Nat) : Int) (s.acked : Int) 0 2)) := h0.blk.drew.set_ 1 _
  have hF := send_facts h0 hch hkw
  have HF := Lib.hid hF
  have Hln : Hid (fp.length + (wp.take k).length ≤ 8 ∧ k = (wp.take k).length) := by
    have hw : wp.length = s.wt.length := h0.wlen
    have hf : fp.length = s.fl.length := h0.flen
    rw [Hid, List.length_take]
    have := hk.out
    omega
  have Hfp : Hid (fp.length = nf) := by rw [Hid]; exact h0.flen.trans hfl.symm
  have HC := Lib.hid hch
  have HH := Lib.hid h0
  have Hfl := Lib.hid hfl
  have Hwl := Lib.hid hwl
  clear h0 h hle hmx hnil hnf hfl hwl hnw hlew hmxw hnilw hch hF hne
  go_region_law (first | (go_simp; go_at_call 65; refine (HT.out).mono ?_; rintro e w' ⟨rfl, rfl⟩; dsimp only) | (refine step_append_a _ rfl _ _ _ rfl 57 i0 _ 3 40 Try.underlying40 hi hz hz1 hz2 rfl (by decide) Pc.cells_len Pc.cells_one _ fp (by rfl) HF.out.1.own _ A (wp.take k) k k (by rfl) Hln.out.2 (HF.out.2.1.own.sl Pc.cells_len) (by have := Hln.out.1; unfold maxLen; omega) (by have := Hln.out.1; omega) ?_; intro v' w' hown' hchg hat; obtain ⟨A', n', cap', rfl, hn', hle', hmx', hnl'⟩ := hown'.form; have hb2 := HBk.out.chg hchg (fun hk => HF.out.1.own.apart HBk.out (by decide) hk); have g2 : w'.cell? ⟨g, 2, none⟩ = some (.slice B nf cf) := hb2.cell 2; have k2 := hb2.free 2; have hnn : nf ≤ n' := (by rw [hn'.out, List.length_append, Hfp.out]; omega); have s2 : ∀ W, (Instr.slice 40 (.slice A' n' cap') (some (.int .i64 (nf : Int))) none none).run Try.prog W = .ok (.slice (cutA A' cap' nf 3) (n' - nf) (cap' - nf)) W := (fun W => by simpa using pslo A' n' cap' (nf : Int) (by omega) (by omega) W); have HO := Lib.hid (And.intro hown' (And.intro hchg (And.intro hat (And.intro hn' (And.intro hle' (And.intro hnl' (And.intro hmx' hb2))))))); clear hown' hchg hat hn' hle' hmx' hnl' hb2))
  all_goals
    go_wp2_with fail
    obtain ⟨P1, P2⟩ := send_pack HH.out HC.out hkw (by simp [World.setCell]) (HO.out.2.2.2.2.2.2.2.set_ 2 (.slice A' n' cap')) HO.out.1 HO.out.2.1 HO.out.2.2.1 ((Chg.refl (fun k => k = g) w').setCell (p := ⟨g, 2, none⟩) (fun _ => rfl) (.slice A' n' cap')) ⟨_, HO.out.2.2.2.2.2.2.2⟩
    have hct := P1.fo.cut nf (by rw [List.length_append, Hfp.out]; omega)
    obtain ⟨_, _, _, hv, hcn, hcle, _, hcnil⟩ := hct.own.form
    injection hv with v1 v2 v3; subst v1; subst v2; subst v3
    have hlen := Hln.out.1
    have HW := Lib.hid (own_any ((fp ++ wp.take k).drop nf) _ _ _ _ (hct.own.sl Pc.cells_len) (fun p hp => (hct.ok p hp).rd) (by rw [List.length_drop, List.length_append]; omega) hcn hcnil hcle)
    have hop : SndOp w g F _ (w'.setCell ⟨g, 2, none⟩ (.slice A' n' cap')) := ⟨_, ⟨_, _, _, _, P1⟩, (HB0.out.2.mono (fun i _ hi => hi ▸ HH.out.fg)).trans P2 (fun i _ h => h), fun i hi => hi.imp id (fun h => Nat.le_trans HB0.out.2.size h.1)⟩
    have HP := Lib.hid hop
    clear P1 P2 hct hcn hcle hcnil hop
    generalize w'.setCell ⟨g, 2, none⟩ (.slice A' n' cap') = w3 at *
    refine (HW.out).mono ?_
    rintro e w4 ⟨v, ps, rfl, ho1, ho2, ho3⟩
    have HR := Lib.hid (show RetPc w3 57 (((fp ++ wp.take k).drop nf).map Pc.core) (.returned v) w4 from ⟨v, ps, rfl, ho1, ho2, ho3⟩)
    clear ho1 ho2 ho3
    go_wp2
    go_ret
    have hne' : s.fl = [] := List.eq_nil_of_length_eq_zero (by rw [← Hfl.out]; exact HQ.out.2.2.2.2.2.2.2.2.2.2.2)
    have hkk : sendK s = k := by
      unfold sendK
      rw [hk.out, Hwl.out, Hfl.out]
      congr 1; omega
    have hout : ((fp ++ wp.take k).drop nf).map Pc.core = sendO s := by
      have hwc : wp.map Pc.core = numd (s.acked + s.fl.length) s.wt := HH.out.wc
      rw [List.drop_left' Hfp.out, List.map_take, hwc, numd_take, sendO, hkk]
    have hS : sendS s = { s with fl := s.fl ++ s.wt.take k, wt := s.wt.drop k, waited := 0, patience := 2 } := by
      rw [sendS, calmS, if_pos hne', hkk]
    rw [hS, ← hout]
    exact SndOut.of_own HP.out HR.out

theorem send_any (w : World) (g : Nat) (F : Nat → Prop) (s : St) (h : Snd w g F s) (hs : s.Ok) :
    Calls Try.prog 22 #[.pointer (some ⟨g, 0, none⟩)] w (SndOut w g F (sendS s) (sendO s)) := by
  obtain ⟨wv, fv, wp, fp, h⟩ := h
  obtain ⟨B, nf, cf, rfl, _⟩ := h.fo.own.form
  obtain ⟨A, nw, cw, rfl, _⟩ := h.wo.own.form
  by_cases hne : nf = 0
  · exact send_empty w g F s A B nw cw nf cf wp fp h hs hne
  · exact send_full w g F s A B nw cw nf cf wp fp h hs hne
end Go.Proofs.Ytiljpbncfofnhaa.Send
