/- sender: the document's Send. -/
import Derived.Test.YtiljpbncfofnhaaRSendB
import Derived.Outline
import Derived.BigQuiet
import Derived.Deep.QuietTactic
import Derived.Deep.RegionWith
import Derived.Deep.RegionHeld3
import Derived.Deep.DrawnRows
import Derived.Deep.LoopGhost
import Derived.Deep.DeepCutAuto
import Derived.Laws.EntriesVeiled
import Derived.BigRegion
import Derived.WalkLawsBesides
import Derived.Deep.RegionLaw
namespace Go.Proofs.Ytiljpbncfofnhaa.Send
open Go.RowKit Go.ChangeShapes Go.WideShapes Go.ChangeAt
set_option linter.unusedVariables false
set_option linter.unusedSimpArgs false
attribute [local go_sem ↓] Go.wp_at_zero Go.wp_at_succ

theorem rsend_pack {w W w7 w8 : World} {g : Nat} {F : Nat → Prop} {s : St} {A B A' : Option Addr} {nw cw nf cf n' c' : Nat} {wp fp : List Pc} {x : Pc} {z : Bool × List UInt8} {S : Int} (h : RndAt w g F s (.slice A nw cw) (.slice B nf cf) wp fp) (hx : wp[0]? = some x) (hz : s.wt[0]? = some z)
    (hS : S = ((s.acked + s.fl.length : Nat) : Int)) (hc : Chg (fun k => k = g) w W)
    (hb : Blk w8 g 46 (mkR (.slice (cutA A cw 1 3) (nw - 1) (cw - 1)) (.slice A' n' c') (S + 1) (s.acked : Int) s.waited s.patience))
    (hown : OwnA w7 101 3 Pc.cells (.slice A' n' c') (fp ++ [⟨S + 1, x.last, x.A, x.n, x.cap, x.bs⟩])) (hch : Chg (fun k => (Value.slice B nf cf).ownBlock = some k) W w7)
    (hat : (Value.slice A' n' c').ownBlock = (Value.slice B nf cf).ownBlock ∨ (Value.slice A' n' c').ownBlock = some W.heap.size) (h3 : Chg (fun k => k = g) w7 w8) (hb2 : ∃ cs, Blk w7 g 46 cs) :
    RndAt w8 g (fun i => F i ∨ (Value.slice A' n' c').ownBlock = some i) { s with fl := s.fl ++ [z], wt := s.wt.drop 1 } (.slice (cutA A cw 1 3) (nw - 1) (cw - 1)) (.slice A' n' c') (wp.drop 1) (fp ++ [⟨S + 1, x.last, x.A, x.n, x.cap, x.bs⟩]) ∧ Chg F w w8 := by
  obtain ⟨cs2, hb2⟩ := hb2
  have hk1 : 1 ≤ wp.length := by have := (List.getElem?_eq_some_iff.1 hx).1; omega
  have hsz := hch.size
  have hsz3 := h3.size
  have hszc := hc.size
  have hF1 := h.fo.other hc h.blk (by decide) (by decide)
  have hW := h.wo.other hc h.blk (by decide) (by decide)
  have hF3 := hW.cut 1 hk1
  have hsep3 := cut_sep (cap' := cw) h.sep 1 (nw - 1) (cw - 1)
  have q3 := (hF3.chgP hF1.own hch hsep3 (by decide)).other h3 hb2 (by decide) (by decide)
  have key : ∀ p : Pc, p.Ok W → p.Ok w8 := fun p o => by
    have o2 : p.Ok w7 := ⟨o.1.chg hch (fun i hi => o.1.apartA hF1.own (by decide) hi), o.2⟩
    exact ⟨o2.1.chg h3 (fun i hi hs => by subst hs; exact o2.1.apart hb2 (by decide) hi), o2.2⟩
  have hxm := List.mem_of_getElem? hx
  have hgF := h.fg
  have hxz : x.core = (0, z.1, z.2) := by
    have := congrArg (fun l => l[0]?) h.wc
    simp only [List.getElem?_map, hx, hz, Option.map_some, Option.some.injEq] at this
    exact this
  have hx1 : x.last = z.1 := congrArg (fun c => c.2.1) hxz
  have hx2 : x.bs = z.2 := congrArg (fun c => c.2.2) hxz
  have hwt : s.wt = z :: s.wt.drop 1 := by
    cases hw : s.wt with
    | nil => rw [hw] at hz; simp at hz
    | cons y ys => rw [hw] at hz; simp at hz; subst hz; simp
  refine ⟨⟨?_, .inl h.fg, fun i hi => ?_, q3.mono (fun i hi => .inl hi), ⟨hown.chg h3 (fun i hi hs => by subst hs; exact hown.apart hb2 (by decide) hi), fun i hi => .inr hi, fun p hp => ?_, fun p hp i hi => .inl ?_⟩, fun i hi he => ?_, ?_, ?_⟩, ?_⟩
  · refine cast (congrArg (Blk w8 g 46) ?_) hb
    simp only [mkR]
    rw [show ((s.acked + (s.fl ++ [z]).length : Nat) : Int) = S + 1 from by rw [List.length_append, hS]; simp; omega]
  · rcases hi with hi | hi
    · have := h.lt i hi; omega
    · have := hown.lt hi; omega
  · rcases List.mem_append.1 hp with hp | hp
    · exact key p (hF1.ok p hp)
    · rw [List.mem_singleton.1 hp]
      have o := hW.ok x hxm
      exact key _ ⟨o.1, o.2⟩
  · rcases List.mem_append.1 hp with hp | hp
    · exact hF1.fp p hp i hi
    · rw [List.mem_singleton.1 hp] at hi; exact hW.fp x hxm i hi
  · rcases hat with hat | hat
    · rw [hat] at he; exact hsep3 i hi he
    · rw [hat] at he; injection he with he
      have := hF3.own.lt hi
      omega
  · rw [List.map_drop, h.wc, List.map_drop]
  · rw [List.map_append, h.fc, numd_append]
    simp only [List.map_cons, List.map_nil, numd, Pc.core, hx1, hx2]
    rw [hS, show ((s.acked + s.fl.length : Nat) : Int) + 1 = ((s.acked + s.fl.length + 1 : Nat) : Int) from by omega]
  · have a1 : Chg F w W := hc.mono (fun i _ hi => hi ▸ hgF)
    have a2 : Chg F W w7 := hch.mono (fun i _ hi => hF1.blk i hi)
    have a3 : Chg F w7 w8 := h3.mono (fun i _ hi => hi ▸ hgF)
    exact (a1.trans a2 (fun i _ h => h)).trans a3 (fun i _ h => h)
def sendJ (s : St) (i : Nat) : St := { calmS s with fl := s.fl ++ s.wt.take i, wt := s.wt.drop i }
theorem sendJ_succ {s : St} {i : Nat} {z : Bool × List UInt8} (hz : (sendJ s i).wt[0]? = some z) : { sendJ s i with fl := (sendJ s i).fl ++ [z], wt := (sendJ s i).wt.drop 1 } = sendJ s (i + 1) ∧ s.wt.take (i + 1) = s.wt.take i ++ [z] := by
  have h1 : s.wt[i]? = some z := by simpa [sendJ] using hz
  have h2 : s.wt.take (i + 1) = s.wt.take i ++ [z] := by rw [List.take_add_one, h1]; rfl
  refine ⟨?_, h2⟩
  simp only [sendJ, h2, List.append_assoc, List.drop_drop]
theorem sendJ_zero (s : St) : sendJ s 0 = calmS s := by unfold sendJ calmS; split <;> simp
theorem sendJ_acked (s : St) (i : Nat) : (sendJ s i).acked = s.acked := by unfold sendJ calmS; split <;> rfl
theorem sendJ_fl (s : St) (i : Nat) : (sendJ s i).fl = s.fl ++ s.wt.take i := rfl
theorem sendJ_wt (s : St) (i : Nat) : (sendJ s i).wt = s.wt.drop i := rfl
theorem sendJ_end (s : St) {i : Nat} (h : i = sendK s) : sendJ s i = sendS s := by subst h; rfl
/-- how far Send has come: i pieces -/
structure RsI (w wr : World) (g : Nat) (F F' : Nat → Prop) (s : St) (i : Nat) (wv fv v3 : Value) (wp fp qs : List Pc) : Prop where
  at_ : RndAt wr g F' (sendJ s i) wv fv wp fp
  chg : Chg F w wr
  sub : ∀ k, F' k → F k ∨ w.heap.size ≤ k
  own : OwnA wr 101 3 Pc.cells v3 qs
  blk : ∀ k, v3.ownBlock = some k → w.heap.size ≤ k ∧ ¬ F' k
  ok : ∀ p ∈ qs, p.Ok wr
  core : qs.map Pc.core = numd (s.acked + s.fl.length) (s.wt.take i)
theorem RsI.len {w wr : World} {g : Nat} {F F' : Nat → Prop} {s : St} {i : Nat} {wv fv v3 : Value} {wp fp qs : List Pc} (h : RsI w wr g F F' s i wv fv v3 wp fp qs) : qs.length = min i s.wt.length := by
  have := congrArg List.length h.core
  simpa [numd_len] using this
theorem RsI.own8 {w wr W w7 w8 : World} {g : Nat} {F F' : Nat → Prop} {s : St} {i : Nat} {wv fv v3 : Value} {wp fp qs : List Pc} (h : RsI w wr g F F' s i wv fv v3 wp fp qs) (hc : Chg (fun k => k = g) wr W) (hch : Chg (fun k => fv.ownBlock = some k) W w7) (h3 : Chg (fun k => k = g) w7 w8) (hb2 : ∃ cs, Blk w7 g 46 cs) :
    OwnA w8 101 3 Pc.cells v3 qs ∧ ∀ p ∈ qs, p.Ok w8 := by
  obtain ⟨cs2, hb2⟩ := hb2
  have hF1 := h.at_.fo.other hc h.at_.blk (by decide) (by decide)
  refine ⟨((h.own.chg hc (fun k hk e => (h.blk k hk).2 (e ▸ h.at_.fg))).chg hch (fun k hk e => (h.blk k hk).2 (h.at_.fo.blk k e))).chg h3 (fun k hk e => (h.blk k hk).2 (e ▸ h.at_.fg)), fun p hp => ?_⟩
  have o := h.ok p hp
  have o1 : p.Ok W := ⟨o.1.chg hc (fun i hi hs => by subst hs; exact o.1.apart h.at_.blk (by decide) hi), o.2⟩
  have o2 : p.Ok w7 := ⟨o1.1.chg hch (fun i hi => o1.1.apartA hF1.own (by decide) hi), o1.2⟩
  exact ⟨o2.1.chg h3 (fun i hi hs => by subst hs; exact o2.1.apart hb2 (by decide) hi), o2.2⟩
theorem RsI.next {w wr W w7 w8 w9 : World} {g : Nat} {F F' : Nat → Prop} {s : St} {i : Nat} {A B A7 : Option Addr} {nw cw nf cf n7 c7 : Nat} {v3 v9 : Value} {wp fp qs : List Pc} {x : Pc} {S : Int} {o : Obj} (h : RsI w wr g F F' s i (.slice A nw cw) (.slice B nf cf) v3 wp fp qs) (hx : wp[0]? = some x)
    (hS : S = (((sendJ s i).acked + (sendJ s i).fl.length : Nat) : Int)) (hc : Chg (fun k => k = g) wr W)
    (hb : Blk w8 g 46 (mkR (.slice (cutA A cw 1 3) (nw - 1) (cw - 1)) (.slice A7 n7 c7) (S + 1) ((sendJ s i).acked : Int) (sendJ s i).waited (sendJ s i).patience))
    (hown : OwnA w7 101 3 Pc.cells (.slice A7 n7 c7) (fp ++ [⟨S + 1, x.last, x.A, x.n, x.cap, x.bs⟩])) (hch : Chg (fun k => (Value.slice B nf cf).ownBlock = some k) W w7)
    (hat : (Value.slice A7 n7 c7).ownBlock = (Value.slice B nf cf).ownBlock ∨ (Value.slice A7 n7 c7).ownBlock = some W.heap.size) (h3 : Chg (fun k => k = g) w7 w8) (hb2 : ∃ cs, Blk w7 g 46 cs)
    (hown9 : OwnA w9 101 3 Pc.cells v9 (qs ++ [⟨S + 1, x.last, x.A, x.n, x.cap, x.bs⟩])) (hch9 : Chg (fun k => v3.ownBlock = some k) (w8.alloc o) w9) (hat9 : v9.ownBlock = v3.ownBlock ∨ v9.ownBlock = some (w8.alloc o).heap.size) :
    RsI w w9 g F (fun k => F' k ∨ (Value.slice A7 n7 c7).ownBlock = some k) s (i + 1) (.slice (cutA A cw 1 3) (nw - 1) (cw - 1)) (.slice A7 n7 c7) v9 (wp.drop 1) (fp ++ [⟨S + 1, x.last, x.A, x.n, x.cap, x.bs⟩]) (qs ++ [⟨S + 1, x.last, x.A, x.n, x.cap, x.bs⟩]) := by
  obtain ⟨z, hz⟩ : ∃ z, (sendJ s i).wt[0]? = some z := by
    have h1 := h.at_.wlen
    have h2 := (List.getElem?_eq_some_iff.1 hx).1
    exact ⟨_, List.getElem?_eq_getElem (by omega)⟩
  obtain ⟨P1, P2⟩ := rsend_pack h.at_ hx hz hS hc hb hown hch hat h3 hb2
  obtain ⟨O1, O2⟩ := h.own8 hc hch h3 hb2
  obtain ⟨e1, e2⟩ := sendJ_succ hz
  rw [e1] at P1
  have s1 := h.chg.size
  have s2 := P2.size
  have s3 := hc.size
  have s4 := hch.size
  have s5 := h3.size
  have hal := below_s w8 o
  have hnew : ∀ k, v3.ownBlock = some k → ¬ (F' k ∨ (Value.slice A7 n7 c7).ownBlock = some k) := fun k hk e => by
    rcases e with e | e
    · exact (h.blk k hk).2 e
    · rcases hat with a | a
      · rw [a] at e; exact (h.blk k hk).2 (h.at_.fo.blk k e)
      · rw [a] at e; injection e with e
        have := h.own.lt hk
        omega
  have hA := P1.chg (Chg.of_ext (S := fun _ => False) hal) (fun _ _ h => h)
  have hB := hA.chg hch9 (fun k hk e => hnew k e hk)
  have hOa := O1.ext hal
  refine ⟨hB, ?_, fun k hk => ?_, hown9, fun k hk => ?_, fun p hp => ?_, ?_⟩
  · have a1 : Chg F w w8 := h.chg.trans P2 (fun k hk e => (h.sub k e).elim id (fun e => by omega))
    have a2 : Chg F w (w8.alloc o) := a1.trans (T := fun _ => False) (Chg.of_ext hal) (fun _ _ h => h.elim)
    exact a2.trans hch9 (fun k hk e => by have := (h.blk k e).1; omega)
  · rcases hk with hk | hk
    · exact h.sub k hk
    · rcases hat with a | a
      · rw [a] at hk; exact h.sub k (h.at_.fo.blk k hk)
      · rw [a] at hk; injection hk with hk; right; omega
  · rcases hat9 with a | a
    · rw [a] at hk; exact ⟨(h.blk k hk).1, hnew k hk⟩
    · rw [a] at hk; injection hk with hk
      have hz : (w8.alloc o).heap.size = w8.heap.size + 1 := by simp
      exact ⟨by omega, fun e => by have := P1.lt k e; omega⟩
  · have key : ∀ q : Pc, q.Ok w8 → q.Ok w9 := fun q o => ⟨(o.1.ext hal).chg hch9 (fun i hi => (o.1.ext hal).apartA hOa (by decide) hi), o.2⟩
    rcases List.mem_append.1 hp with hp | hp
    · exact key p (O2 p hp)
    · rw [List.mem_singleton.1 hp]; exact key _ (P1.fo.ok _ (by simp))
  · have hz1 : s.wt[i]? = some z := by simpa [sendJ] using hz
    have hil := (List.getElem?_eq_some_iff.1 hz1).1
    have hxz : x.core = (0, z.1, z.2) := by
      have := congrArg (fun l => l[0]?) h.at_.wc
      simp only [List.getElem?_map, hx, hz, Option.map_some, Option.some.injEq] at this
      exact this
    have hx1 : x.last = z.1 := congrArg (fun c => c.2.1) hxz
    have hx2 : x.bs = z.2 := congrArg (fun c => c.2.2) hxz
    rw [List.map_append, h.core, e2, numd_append]
    simp only [List.map_cons, List.map_nil, numd, Pc.core, hx1, hx2]
    rw [hS, sendJ_acked, sendJ_fl, List.length_append, List.length_take, Nat.min_eq_left (by omega)]
    rw [show ((s.acked + (s.fl.length + i) : Nat) : Int) + 1 = ((s.acked + s.fl.length + i + 1 : Nat) : Int) from by omega]
set_option maxHeartbeats 4000000 in
set_option maxRecDepth 100000 in
theorem rsend_any (w : World) (g : Nat) (F : Nat → Prop) (s : St) (h : Rnd w g F s) (hs : s.Ok) :
    Calls Try.prog 23 #[.pointer (some ⟨g, 0, none⟩)] w (RndOut w g F (sendS s) (sendO s)) := by
  have HR := Lib.hid h
  obtain ⟨wv, fv, wp, fp, h⟩ := h
  obtain ⟨B, nf, cf, rfl, hnf, hle, hmx, hnil⟩ := h.fo.own.form
  have hfl : nf = s.fl.length := hnf.out.trans h.flen
  have b1 := hs.fl
  have b2 := hs.all
  have c1 : w.cell? ⟨g, 1, none⟩ = some (.slice B nf cf) := h.blk.cell 1
  have c4 : w.cell? ⟨g, 4, none⟩ = some (.int .i64 s.waited) := h.blk.cell 4
  have c5 : w.cell? ⟨g, 5, none⟩ = some (.int .i64 s.patience) := h.blk.cell 5
  have f4 := h.blk.free 4
  have f5 := h.blk.free 5
  have HH := Lib.hid h
  have Hfl := Lib.hid hfl
  obtain ⟨i0, hi0, hz, hz1, hz2⟩ := info_parts p27Info
  clear h hle hmx hnil hnf hfl
  go_enter Try.func23, Try.ntmps23
  go_upto_if 10 with fail
  go_cut [] (fun wx => Hid (RndAt wx g F (calmS s) wv (.slice B nf cf) wp fp ∧ Chg (fun k => k = g) w wx))
  case first =>
    by_cases h0 : nf = 0
    · have e1 : calmS s = { s with waited := 0, patience := 2 } := by
        have : s.fl = [] := List.eq_nil_of_length_eq_zero (by rw [← Hfl.out]; exact h0)
        simp [calmS, this]
      subst h0
      have hch : Chg (fun k => k = g) w ((w.setCell ⟨g, 4, none⟩ (.int .i64 0)).setCell ⟨g, 5, none⟩ (.int .i64 2)) := ((Chg.refl (fun k => k = g) w).setCell (p := ⟨g, 4, none⟩) (fun _ => rfl) _).setCell (p := ⟨g, 5, none⟩) (fun _ => rfl) _
      have hA := rwait_pack (x := 0) (y := 2) HH.out hch ((HH.out.blk.set_ 4 _).set_ 5 _)
      rw [← e1] at hA
      have HA := Lib.hid (And.intro hA hch)
      clear hA hch e1
      go_wp2
      go_meet
      exact HA
    · have e1 : calmS s = s := by
        have : s.fl ≠ [] := fun e => h0 (by rw [Hfl.out, e]; rfl)
        simp [calmS, this]
      have ht0 : ((nf : Int) == 0) = false := by simp; omega
      have HA := Lib.hid (And.intro HH.out (Chg.refl (fun k => k = g) w))
      rw [← e1] at HA
      clear e1
      go_wp2
      go_meet
      exact HA
  case rest =>
    go_wp2
    go_loopg [3, 4] 5 (fun gk v3 v4 wr => ∃ (i : Nat) (A3 : Option Addr) (n3 c3 : Nat) (wv fv : Value) (wp fp qs : List Pc) (F' : Nat → Prop), v3 = .slice A3 n3 c3 ∧ 5 ≤ i + gk ∧ i ≤ sendK s ∧ Hid (RsI w wr g F F' s i wv fv (.slice A3 n3 c3) wp fp qs))
    case atStart => exact ⟨0, none, 0, 0, wv, _, wp, fp, [], F, rfl, by omega, by omega, ⟨by rw [sendJ_zero]; exact hcut.out.1, hcut.out.2.mono (fun i _ hi => hi ▸ hcut.out.1.fg), fun k hk => .inl hk, OwnA.nil_ _ _ _ _, fun k hk => (by cases hk), fun p hp => (by cases hp), rfl⟩⟩
    case round =>
      obtain ⟨i, A3, n3, c3, wv, fv, wp, fp, qs, F', rfl, hgk, hi, hI⟩ := hrel
      obtain ⟨B, nf, cf, rfl, hnf, hle, hmx, hnil⟩ := hI.out.at_.fo.own.form
      obtain ⟨A, nw, cw, rfl, hnw, hlew, hmxw, hnilw⟩ := hI.out.at_.wo.own.form
      have hfl : nf = s.fl.length + min i s.wt.length := by have h := hnf.out.trans hI.out.at_.flen; simpa [sendJ] using h
      have hwl : nw = s.wt.length - i := by have h := hnw.out.trans hI.out.at_.wlen; simpa [sendJ] using h
      have hlq := hI.out.len
      have hsk : sendK s = min (4 - s.fl.length) s.wt.length := rfl
      have c0 : wr.cell? ⟨g, 0, none⟩ = some (.slice A nw cw) := hI.out.at_.blk.cell 0
      have c1 : wr.cell? ⟨g, 1, none⟩ = some (.slice B nf cf) := hI.out.at_.blk.cell 1
      by_cases hgo : 0 < nw ∧ nf < 4
      · obtain ⟨hw0, hf4⟩ := hgo
        have d1 : decide (0 < (nw : Int)) = true := decide_eq_true (by omega)
        have d2 : decide (0 < nw) = true := decide_eq_true (by omega)
        have d3 : decide ((nf : Int) < 4) = true := decide_eq_true (by omega)
        have d4 : decide (nf < 4) = true := decide_eq_true (by omega)
        have b3 : (0 : Int) < (nw : Int) := by omega
        obtain ⟨S, hS⟩ : ∃ S : Int, Hid (S = (((sendJ s i).acked + (sendJ s i).fl.length : Nat) : Int)) := ⟨_, rfl⟩
        have hblk := hI.out.at_.blk
        rw [← hS.out] at hblk
        have HB := Lib.hid hblk
        have c2 : wr.cell? ⟨g, 2, none⟩ = some (.int .i64 S) := hblk.cell 2
        have f0 := hblk.free 0
        have f1 := hblk.free 1
        have f2 := hblk.free 2
        have hS0 : 0 ≤ S ∧ S ≤ 1000004 := by rw [hS.out, sendJ_acked, sendJ_fl, List.length_append, List.length_take]; omega
        have e3 : IntKind.i64.wrap (S + 1) = S + 1 := IntWalk.i64_in _ (by omega)
        have hj1 : 0 < wp.length := by have := hnw.out; omega
        have hx := List.getElem?_eq_getElem hj1
        obtain ⟨vb, vo, rfl, hvb, y0, y1, y2⟩ := pc_at (hI.out.at_.wo.own.sl Pc.cells_len) hx
        simp only [Nat.zero_mul, Nat.add_zero] at y0 y1 y2
        have HX := Lib.hid hx
        generalize wp[0] = x at *
        have s2 : ∀ W, (Instr.slice 38 (.slice (some ⟨vb, vo, none⟩) nw cw) (some (.int .i64 1)) none none).run Try.prog W = .ok (.slice (cutA (some ⟨vb, vo, none⟩) cw 1 3) (nw - 1) (cw - 1)) W := fun W => by
          have := rslo (some ⟨vb, vo, none⟩) nw cw 1 (by omega) (by omega) W
          simpa using this
        have HN := Lib.hid (And.intro hfl (And.intro hwl (And.intro hlq hsk)))
        clear hx hblk hfl hwl hlq hsk hnf hnw
        go_upto_region 7 with fail
        have hgl := HB.out.lt
        have HW : Hid (Below wr.heap.size wr (wr.alloc (.cells #[.int .i64 x.seq, .bool x.last, .slice x.A x.n x.cap] 101)) ∧ Blk (wr.alloc (.cells #[.int .i64 x.seq, .bool x.last, .slice x.A x.n x.cap] 101)) wr.heap.size 101 #[.int .i64 x.seq, .bool x.last, .slice x.A x.n x.cap]) := ⟨below_s _ _, Blk.new _ _ _⟩
        have HB6 := Lib.hid (HB.out.ext HW.out.1)
        obtain ⟨pb, hpb⟩ : ∃ pb, pb = wr.heap.size := ⟨_, rfl⟩
        have hpg : pb ≠ g := by omega
        have hpg' : g ≠ pb := by omega
        have HPB := Lib.hid hpb
        rw [← hpb] at HW ⊢
        generalize hW6 : wr.alloc _ = W6 at *
        clear hW6 hpb c0 c1 c2 f0 f1 f2 y0 y1 y2
        have c0 := HB6.out.cell 0
        have c1 := HB6.out.cell 1
        have c2 := HB6.out.cell 2
        have f0 := HB6.out.free 0
        have f1 := HB6.out.free 1
        have f2 := HB6.out.free 2
        have p0 := HW.out.2.cell 0
        have p1 := HW.out.2.cell 1
        have p2 := HW.out.2.cell 2
        have q0 := HW.out.2.free 0
        simp only [mkR, List.getElem?_toArray, List.getElem?_cons_zero, List.getElem?_cons_succ] at c0 c1 c2 p0 p1 p2
        go_upto_region 10 with fail
        have HC9 : Hid (Chg (fun k => k = g) wr (((W6.setCell ⟨g, 0, none⟩ (.slice (cutA (some ⟨vb, vo, none⟩) cw 1 3) (nw - 1) (cw - 1))).setCell ⟨g, 2, none⟩ (.int .i64 (S + 1))).setCell ⟨pb, 0, none⟩ (.int .i64 (S + 1)))) := by
          have h1 : Chg (fun k => k = g) wr W6 := Chg.of_ext (HPB.out ▸ HW.out.1)
          exact ((h1.setCell (p := ⟨g, 0, none⟩) (fun _ => rfl) _).setCell (p := ⟨g, 2, none⟩) (fun _ => rfl) _).setCell (p := ⟨pb, 0, none⟩) (fun h => absurd h (by rw [HPB.out]; simp)) _
        have HB9 := Lib.hid ((((HB6.out.set_ 0 (.slice (cutA (some ⟨vb, vo, none⟩) cw 1 3) (nw - 1) (cw - 1))).set_ 2 (.int .i64 (S + 1))).chg ((Chg.refl (fun k => k = pb) _).setCell (p := ⟨pb, 0, none⟩) (fun _ => rfl) (.int .i64 (S + 1))) (fun h => hpg' h)))
        have HP9 := Lib.hid ((((HW.out.2.chg ((Chg.refl (fun k => k = g) _).setCell (p := ⟨g, 0, none⟩) (fun _ => rfl) (.slice (cutA (some ⟨vb, vo, none⟩) cw 1 3) (nw - 1) (cw - 1))) (fun h => hpg h)).chg ((Chg.refl (fun k => k = g) _).setCell (p := ⟨g, 2, none⟩) (fun _ => rfl) (.int .i64 (S + 1))) (fun h => hpg h)).set_ 0 (.int .i64 (S + 1))))
        generalize ((W6.setCell ⟨g, 0, none⟩ (.slice (cutA (some ⟨vb, vo, none⟩) cw 1 3) (nw - 1) (cw - 1))).setCell ⟨g, 2, none⟩ (.int .i64 (S + 1))).setCell ⟨pb, 0, none⟩ (.int .i64 (S + 1)) = W9 at *
        clear c0 c1 c2 f0 f1 f2 p0 p1 p2 q0 HW HB6 HB
        have c1 := HB9.out.cell 1
        have f1 := HB9.out.free 1
        have p0 := HP9.out.cell 0
        have p1 := HP9.out.cell 1
        have p2 := HP9.out.cell 2
        simp only [mkR, List.setIfInBounds_toArray, List.set_cons_zero, List.set_cons_succ, List.getElem?_toArray, List.getElem?_cons_zero, List.getElem?_cons_succ] at c1 p0 p1 p2
        have HFO := Lib.hid (hI.out.at_.fo.other HC9.out hI.out.at_.blk (by decide) (by decide))
        have hfn := Lib.hid (hI.out.at_.flen)
        have h1 : Hid (fp.length + [x].length ≤ maxLen) := by rw [Hid, hfn.out, sendJ_fl, List.length_append, List.length_take]; simp [maxLen]; omega
        have h2 : Hid ((fp.length + [x].length) * 40 ≤ 140737488355328) := by rw [Hid, hfn.out, sendJ_fl, List.length_append, List.length_take]; simp; omega
        have hgl9 := HB9.out.lt
        have HO10 : Hid (OwnA (W9.alloc (.cells #[.int .i64 (S + 1), .bool x.last, .slice x.A x.n x.cap] 101)).drew 101 3 Pc.cells (.slice B nf cf) fp) := (HFO.out.own.ext (below_s _ _)).ext (Below.drew (Below.refl _ _))
        have HB10 := Lib.hid ((HB9.out.ext (below_s W9 (.cells #[.int .i64 (S + 1), .bool x.last, .slice x.A x.n x.cap] 101))).ext (Below.drew (Below.refl _ _)))
        have HL10 := Lib.hid ((pc27_lit (w2 := W9) (p := ⟨S + 1, x.last, x.A, x.n, x.cap, x.bs⟩)).ext (Below.drew (Below.refl _ _)))
        have hpl9 := HP9.out.lt
        go_region_law (refine step_append_a _ rfl _ _ _ rfl 101 i0 _ 3 40 Try.underlying38 hi0 hz hz1 hz2 rfl (by decide) Pc.cells_len Pc.cells_one (.slice B nf cf) fp (by rfl) HO10.out _ (some ⟨W9.heap.size, 0, none⟩) [⟨S + 1, x.last, x.A, x.n, x.cap, x.bs⟩] 1 1 (by rfl) rfl HL10.out h1.out h2.out ?_; intro v7 w7 hown' hchg hat; obtain ⟨A7, n7, c7, rfl, hn7, hle7, hmx7, hnl7⟩ := hown'.form; have hb7 := HB10.out.chg hchg (fun hk => HO10.out.apart HB10.out (by decide) hk); have k1 := hb7.cell 1; have q1 := hb7.free 1; simp only [mkR, List.setIfInBounds_toArray, List.set_cons_zero, List.set_cons_succ, List.getElem?_toArray, List.getElem?_cons_zero, List.getElem?_cons_succ] at k1; have HO := Lib.hid (And.intro hown' (And.intro hchg (And.intro hat hb7))); clear hown' hchg hat hb7)
        all_goals (
          have HC10 : Hid (Chg (fun k => k = g) wr (W9.alloc (.cells #[.int .i64 (S + 1), .bool x.last, .slice x.A x.n x.cap] 101)).drew) := HC9.out.trans (T := fun _ => False) (Chg.of_ext ((below_s W9 _).trans (Below.drew (Below.refl _ _)))) (fun _ _ h => h.elim)
          have h38 : Chg (fun k => k = g) w7 (w7.setCell ⟨g, 1, none⟩ (.slice A7 n7 c7)) := (Chg.refl (fun k => k = g) w7).setCell (p := ⟨g, 1, none⟩) (fun _ => rfl) _
          have HB8 := Lib.hid (HO.out.2.2.2.set_ 1 (.slice A7 n7 c7))
          have HQ8 := Lib.hid (hI.out.own8 HC10.out HO.out.2.1 h38 ⟨_, HO.out.2.2.2⟩)
          have HP8 := Lib.hid ((((HP9.out.ext (below_s W9 (.cells #[.int .i64 (S + 1), .bool x.last, .slice x.A x.n x.cap] 101))).ext (Below.drew (Below.refl _ _))).chg HO.out.2.1 (fun hk => by have h4 := hI.out.at_.lt _ (hI.out.at_.fo.blk _ hk); have h5 := HPB.out; omega)).chg h38 (fun e => hpg e))
          have H38 := Lib.hid h38
          generalize w7.setCell ⟨g, 1, none⟩ (.slice A7 n7 c7) = W8 at *
          clear h38 p0 p1 p2 c1 f1 k1 q1 HP9 HB9
          have p0 := HP8.out.cell 0
          have p1 := HP8.out.cell 1
          have p2 := HP8.out.cell 2
          simp only [mkR, List.setIfInBounds_toArray, List.set_cons_zero, List.set_cons_succ, List.getElem?_toArray, List.getElem?_cons_zero, List.getElem?_cons_succ] at p0 p1 p2
          have h3q : Hid (qs.length + [x].length ≤ maxLen) := by have := HN.out.2.2.1; rw [Hid]; simp [maxLen]; omega
          have h4q : Hid ((qs.length + [x].length) * 40 ≤ 140737488355328) := by have := HN.out.2.2.1; rw [Hid]; simp; omega
          have HL8 := Lib.hid (pc27_lit (w2 := W8) (p := ⟨S + 1, x.last, x.A, x.n, x.cap, x.bs⟩))
          have HO8 : Hid (OwnA (W8.alloc (.cells #[.int .i64 (S + 1), .bool x.last, .slice x.A x.n x.cap] 101)) 101 3 Pc.cells (.slice A3 n3 c3) qs) := HQ8.out.1.ext (below_s _ _)
          go_wp2_with (at_builtin; refine wpList_append_a _ rfl _ _ _ rfl 101 i0 _ 3 40 Try.underlying38 hi0 hz hz1 hz2 rfl (by decide) Pc.cells_len Pc.cells_one _ qs (by rfl) HO8.out _ (some ⟨W8.heap.size, 0, none⟩) [⟨S + 1, x.last, x.A, x.n, x.cap, x.bs⟩] 1 1 (by rfl) rfl HL8.out h3q.out h4q.out ?_; intro v9 w9 hown9 hchg9 hat9; obtain ⟨A9, n9, c9, rfl, hn9, hle9, hmx9, hnl9⟩ := hown9.form; have HR9 := Lib.hid (hI.out.next HX.out hS.out HC10.out HB8.out HO.out.1 HO.out.2.1 HO.out.2.2.1 H38.out ⟨_, HO.out.2.2.2⟩ hown9 hchg9 hat9); clear hown9 hchg9 hat9)
          go_roundg (gk - 1)
          case measure => have := HN.out; omega
          case rel => exact ⟨i + 1, A9, n9, c9, _, _, _, _, _, _, rfl, by omega, by have := HN.out; omega, HR9.out⟩)
      · have hend : Hid (i = sendK s) := by rw [Hid]; omega
        have hok := Lib.hid (copy27_any qs A3 n3 c3 wr (hI.out.own.sl Pc.cells_len) (fun p hp => (hI.out.ok p hp).rd) (by obtain ⟨_, _, _, hv, hq, _⟩ := hI.out.own.form; injection hv with _ hv2 _; have := hq.out; omega) (by obtain ⟨_, _, _, hv, hq, _⟩ := hI.out.own.form; injection hv with _ hv2 _; rw [hv2]; exact hq))
        have HE := Lib.hid (show RndOp w g F (sendS s) wr from ⟨F', ⟨_, _, _, _, by rw [← sendJ_end s hend.out]; exact hI.out.at_⟩, hI.out.chg, hI.out.sub⟩)
        have HCO : Hid (qs.map Pc.core = sendO s) := by rw [Hid, hI.out.core, hend.out]; rfl
        have hdis : nw = 0 ∨ 0 < nw ∧ 4 ≤ nf := by omega
        clear hfl hwl hlq hsk hnf hnw hgo
        rcases hdis with h0 | ⟨h0, h4⟩
        · subst h0
          go_wp2_with (go_at_call 67; refine (hok.out).mono ?_; rintro e w' ⟨v, ps, rfl, ho1, ho2, ho3⟩; have HR2 := Lib.hid (show RetP27 wr (qs.map Pc.core) (.returned v) w' from ⟨v, ps, rfl, ho1, ho2, ho3⟩); clear ho1 ho2 ho3)
          go_ret
          have h5 := HR2.out
          rw [HCO.out] at h5
          exact RndOut.of_own HE.out h5
        · have d1 : decide (0 < (nw : Int)) = true := decide_eq_true (by omega)
          have d2 : decide (0 < nw) = true := decide_eq_true (by omega)
          have d3 : decide ((nf : Int) < 4) = false := decide_eq_false (by omega)
          have d4 : decide (nf < 4) = false := decide_eq_false (by omega)
          go_wp2_with (go_at_call 67; refine (hok.out).mono ?_; rintro e w' ⟨v, ps, rfl, ho1, ho2, ho3⟩; have HR2 := Lib.hid (show RetP27 wr (qs.map Pc.core) (.returned v) w' from ⟨v, ps, rfl, ho1, ho2, ho3⟩); clear ho1 ho2 ho3)
          go_ret
          have h5 := HR2.out
          rw [HCO.out] at h5
          exact RndOut.of_own HE.out h5
end Go.Proofs.Ytiljpbncfofnhaa.Send
