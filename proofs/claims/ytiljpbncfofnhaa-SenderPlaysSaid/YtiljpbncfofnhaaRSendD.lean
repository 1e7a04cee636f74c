/- sender: the document's Load, Same. -/
import Derived.Test.YtiljpbncfofnhaaRSendC
import Derived.Outline
import Derived.BigQuiet
import Derived.Deep.QuietTactic
import Derived.Deep.RegionWith
import Derived.Deep.RegionHeld3
import Derived.Deep.DrawnRows
import Derived.Deep.LoopGhost
import Derived.Deep.DeepCutAuto
import Derived.Laws.EntriesVeiled
import Derived.BigRegion
import Derived.WalkLawsBesides
import Derived.Deep.RegionLaw
namespace Go.Proofs.Ytiljpbncfofnhaa.Send
open Go.RowKit Go.ChangeShapes Go.WideShapes Go.ChangeAt
set_option linter.unusedVariables false
set_option linter.unusedSimpArgs false
attribute [local go_sem ↓] Go.wp_at_zero Go.wp_at_succ

theorem rload_pack {w w2 w4 w5 : World} {g : Nat} {F : Nat → Prop} {s : St} {A A' A2 : Option Addr} {nw cw n' c' n2 c2 : Nat} {fv : Value} {wp fp : List Pc} {last : Bool} {bs : List UInt8} {o : Obj} (h : RndAt w g F s (.slice A nw cw) fv wp fp)
    (h2 : OwnA w2 5 1 encB (.slice A2 n2 c2) bs) (hbs : bs.length ≤ 140737488355328) (hf : ∀ k, (Value.slice A2 n2 c2).ownBlock = some k → w.heap.size ≤ k) (hb2 : Below w.heap.size w w2)
    (hown : OwnA w4 101 3 Pc.cells (.slice A' n' c') (wp ++ [⟨0, last, A2, n2, c2, bs⟩])) (h4 : Chg (fun k => (Value.slice A nw cw).ownBlock = some k) (w2.alloc o) w4)
    (hat : (Value.slice A' n' c').ownBlock = (Value.slice A nw cw).ownBlock ∨ (Value.slice A' n' c').ownBlock = some (w2.alloc o).heap.size) (hb4 : ∃ cs, Blk w4 g 46 cs) (h5 : Chg (fun k => k = g) w4 w5)
    (hb5 : Blk w5 g 46 (mkR (.slice A' n' c') fv ((s.acked + s.fl.length : Nat) : Int) (s.acked : Int) s.waited s.patience)) : RndOp w g F { s with wt := s.wt ++ [(last, bs)] } w5 := by
  obtain ⟨cs4, hb4⟩ := hb4
  have h3 := below_s w2 o
  have e2 := hb2.size
  have e3 := h3.size
  have e4 := h4.size
  have e5 := h5.size
  have wo3 : PcOwn F (w2.alloc o) 101 (.slice A nw cw) wp := (h.wo.ext hb2).ext h3
  have fo3 : PcOwn F (w2.alloc o) 101 fv fp := (h.fo.ext hb2).ext h3
  have fo5 := (fo3.chgP wo3.own h4 (fun k hk he => h.sep k he hk) (by decide)).other h5 hb4 (by decide) (by decide)
  have key : ∀ p : Pc, p.Ok (w2.alloc o) → p.Ok w5 := fun p o => by
    have o2 : p.Ok w4 := ⟨o.1.chg h4 (fun i hi => o.1.apartA wo3.own (by decide) hi), o.2⟩
    exact ⟨o2.1.chg h5 (fun i hi hs => by subst hs; exact o2.1.apart hb4 (by decide) hi), o2.2⟩
  have hsz : (w2.alloc o).heap.size = w2.heap.size + 1 := by simp
  refine ⟨fun i => F i ∨ (w.heap.size ≤ i ∧ i < w5.heap.size), ⟨_, _, _, _, ⟨hb5, .inl h.fg, fun i hi => ?_, ⟨hown.chg h5 (fun i hi hs => by subst hs; exact hown.apart hb4 (by decide) hi), fun i hi => ?_, fun p hp => ?_, fun p hp i hi => ?_⟩, fo5.mono (fun i hi => .inl hi), fun i hi he => ?_, ?_, h.fc⟩⟩, ?_, fun i hi => hi.imp id (fun h => h.1)⟩
  · rcases hi with hi | hi
    · have := h.lt i hi; omega
    · exact hi.2
  · rcases hat with hat | hat
    · exact .inl (h.wo.blk i (hat ▸ hi))
    · have := hown.lt hi
      rw [hat] at hi; injection hi with hi
      right; omega
  · rcases List.mem_append.1 hp with hp | hp
    · exact key p (wo3.ok p hp)
    · rw [List.mem_singleton.1 hp]; exact key _ ⟨h2.ext h3, hbs⟩
  · rcases List.mem_append.1 hp with hp | hp
    · exact .inl (h.wo.fp p hp i hi)
    · rw [List.mem_singleton.1 hp] at hi
      have h6 := blk_own (n := n2) (c := c2) hi
      have := h2.lt h6
      have := hf i h6
      right; omega
  · rcases hat with hat | hat
    · rw [hat] at hi; exact h.sep i hi he
    · rw [hat] at hi; injection hi with hi
      have := h.lt i (h.fo.blk i he)
      omega
  · rw [List.map_append, h.wc, List.map_append]; rfl
  · have a1 : Chg F w (w2.alloc o) := Chg.of_ext (hb2.trans (h3.mono e2))
    exact (a1.trans h4 (fun i _ hi => h.wo.blk i hi)).trans h5 (fun i _ hi => hi ▸ h.fg)
theorem RndOp.trans' {w w1 w2 : World} {g : Nat} {F F' : Nat → Prop} {s2 : St} (a2 : Chg F w w1) (a3 : ∀ k, F' k → F k ∨ w.heap.size ≤ k) (h2 : RndOp w1 g F' s2 w2) : RndOp w g F s2 w2 := by
  obtain ⟨F2, b1, b2, b3⟩ := h2
  refine ⟨F2, b1, a2.trans b2 (fun i hi h => (a3 i h).elim id (fun h => by omega)), fun k hk => ?_⟩
  rcases b3 k hk with h | h
  · exact a3 k h
  · exact .inr (Nat.le_trans a2.size h)
set_option maxRecDepth 100000 in
set_option maxHeartbeats 4000000 in
theorem rload_any (w : World) (g : Nat) (F : Nat → Prop) (s : St) (h : Rnd w g F s) (hs : s.Ok) (cs : List Ch) (A : Option Addr) (n cap : Nat) (hl : ChSl w w.heap.size A cs) (hok : ∀ c ∈ cs, Ch.Ok w c) (hn : Hid (n = cs.length)) (hm : n ≤ 1000)
    (hA : cs ≠ [] → ∀ k, blockOf A = some k → ¬ F k) (hE : ∀ c ∈ cs, c.bs ≠ [] → ∀ k, blockOf c.A = some k → ¬ F k) (htot : s.acked + n ≤ 900000) :
    Calls Try.prog 18 #[.pointer (some ⟨g, 0, none⟩), .slice A n cap] w fun e w' => e = .returned (.int .i64 (loadE s cs)) ∧ RndOp w g F (loadS s cs) w' := by
  have HR := Lib.hid h
  have HL := Lib.hid (And.intro hl (And.intro hok (And.intro hA hE)))
  have hmI : (n : Int) ≤ 1000 := by omega
  obtain ⟨i0, hi0, hz, hz1, hz2⟩ := info_parts p27Info
  clear h hl hok hA hE
  go_enter Try.func18, Try.ntmps18
  go_wp2
  go_loopg [5] n (fun gk v wr => ∃ j : Nat, n ≤ j + gk ∧ j ≤ n ∧ v = .int .i64 (j : Int) ∧ w = wr ∧ Hid (∀ i c, i < j → cs[i]? = some c → wrongB c.n = false))
  case atStart => exact ⟨0, by omega, by omega, rfl, rfl, fun i c hi => by omega⟩
  case round =>
    obtain ⟨j, hgk, hj, rfl, rfl, hJ⟩ := hrel
    by_cases hlt : j < n
    · have hjl : j < cs.length := by rw [← hn.out]; exact hlt
      obtain ⟨c, hx⟩ : ∃ c, cs[j]? = some c := ⟨_, List.getElem?_eq_getElem hjl⟩
      have hcm := List.mem_of_getElem? hx
      obtain ⟨b, off, rfl, hbb, d0⟩ := ChSl.at_ HL.out.1 hx
      have b3 : (0 : Int) ≤ (j : Int) := Int.natCast_nonneg _
      have b4 : (j : Int) < (n : Int) := by omega
      have HX := Lib.hid (And.intro hx hcm)
      clear hx hcm
      cases hw : wrongB c.n with
      | true =>
        have he := Lib.hid (show loadE s cs = 2 ∧ loadS s cs = s by
          have hany : cs.any (fun c => wrongB c.n) = true := List.any_eq_true.2 ⟨c, HX.out.2, hw⟩
          simp [loadE, loadS, wrongC, hany])
        by_cases h1 : c.n < 1
        · have q1 : decide ((c.n : Int) < 1) = true := decide_eq_true (by omega)
          go_wp2
          go_ret
          exact ⟨ret_int he.out.1.symm, by rw [he.out.2]; exact rnd_refl HR.out⟩
        · have q1 : decide ((c.n : Int) < 1) = false := decide_eq_false (by omega)
          have h2 : 48 < c.n := by simp [wrongB] at hw; omega
          have q2 : decide ((48 : Int) < (c.n : Int)) = true := decide_eq_true (by omega)
          clear hw
          go_wp2
          go_ret
          exact ⟨ret_int he.out.1.symm, by rw [he.out.2]; exact rnd_refl HR.out⟩
      | false =>
        have h12 : ¬ c.n < 1 ∧ ¬ 48 < c.n := by simp [wrongB] at hw; omega
        have q1 : decide ((c.n : Int) < 1) = false := decide_eq_false (by omega)
        have q2 : decide ((48 : Int) < (c.n : Int)) = false := decide_eq_false (by omega)
        have hJ2 : Hid (∀ i d, i < j + 1 → cs[i]? = some d → wrongB d.n = false) := fun i d hi hd => by
          by_cases e : i = j
          · subst e; rw [HX.out.1] at hd; injection hd with hd; rw [← hd]; exact hw
          · exact hJ.out i d (by omega) hd
        clear hw h12
        go_wp2
        go_roundg (gk - 1)
        case measure => omega
        case rel => exact ⟨j + 1, by omega, by omega, by go_num, rfl, hJ2.out⟩
    · have hall : j = cs.length := by rw [← hn.out]; omega
      have b4 : ¬ (j : Int) < (n : Int) := by omega
      have hany : cs.any (fun c => wrongB c.n) = false := by
        rw [List.any_eq_false]
        intro c hc
        obtain ⟨i, hi⟩ := List.getElem?_of_mem hc
        have h1 := (List.getElem?_eq_some_iff.1 hi).1
        rw [hJ.out i c (by omega) hi]; simp
      by_cases t0 : n = 0
      · have he := Lib.hid (show loadE s cs = 2 ∧ loadS s cs = s by
          have : cs = [] := List.eq_nil_of_length_eq_zero (by rw [← hn.out]; exact t0)
          subst this
          simp [loadE, loadS, wrongC])
        subst t0
        clear hany hall
        go_wp2
        go_ret
        exact ⟨ret_int he.out.1.symm, by rw [he.out.2]; exact rnd_refl HR.out⟩
      · have ht0 : ((n : Int) == 0) = false := by simp; omega
        have hcs : cs ≠ [] := fun e => t0 (by rw [hn.out, e]; rfl)
        have hwc : wrongC cs = false := by simp [wrongC, hcs, hany]
        have HI := Lib.hid (HR.out.idle)
        cases hid : (s.fl.isEmpty && s.wt.isEmpty) with
        | false =>
          rw [hid] at HI
          have he := Lib.hid (show loadE s cs = 4 ∧ loadS s cs = s by
            have : ¬ (s.fl = [] ∧ s.wt = []) := fun ⟨a, b⟩ => by rw [a, b] at hid; simp at hid
            simp [loadE, loadS, hwc, this])
          clear hany hall hwc hid hcs
          go_wp2_with (go_at_call 29; refine (HI.out).mono ?_; rintro e w' ⟨rfl, rfl⟩)
          go_ret
          exact ⟨ret_int he.out.1.symm, by rw [he.out.2]; exact rnd_refl HR.out⟩
        | true =>
          rw [hid] at HI
          rw [Bool.and_eq_true, List.isEmpty_iff, List.isEmpty_iff] at hid
          have he := Lib.hid (show loadE s cs = 0 ∧ loadS s cs = loadW s cs cs.length by
            have : loadE s cs = 0 := by simp [loadE, hwc, hid.1, hid.2]
            exact ⟨this, by rw [loadS, if_pos this]⟩)
          have hst := Lib.hid (show loadW s cs 0 = s by simp [loadW, flg, ← hid.2])
          have H48 := Lib.hid (show ∀ c ∈ cs, c.n ≤ 48 from fun c hc => by
            have := List.any_eq_false.1 hany c hc
            simp [wrongB] at this; omega)
          have b5 : decide (j < n) = false := decide_eq_false hlt
          clear hany hall hwc hid hcs hgk hj hlt hJ b4
          go_wp2_with (go_at_call 29; refine (HI.out).mono ?_; rintro e w' ⟨rfl, rfl⟩)
          go_wp2
          go_loopg [6] n (fun gk v wr => ∃ j : Nat, n ≤ j + gk ∧ j ≤ n ∧ v = .int .i64 (j : Int) ∧ Hid (RndOp w g F (loadW s cs j) wr))
          case atStart => exact ⟨0, by omega, by omega, rfl, by rw [hst.out]; exact rnd_refl HR.out⟩
          case round =>
            obtain ⟨j, hgk, hj, rfl, hop⟩ := hrel
            by_cases hlt : j < n
            · obtain ⟨F', ⟨wv', fv', wp', fp', h'⟩, hchg, hF'⟩ := hop
              obtain ⟨A1, nw, cw, rfl, hnw, hlew, hmxw, hnilw⟩ := h'.wo.own.form
              have hjl : j < cs.length := by rw [← hn.out]; exact hlt
              obtain ⟨c, hx⟩ : ∃ c, cs[j]? = some c := ⟨_, List.getElem?_eq_getElem hjl⟩
              have hcm := List.mem_of_getElem? hx
              have hcok := HL.out.2.1 c hcm
              obtain ⟨b, off, rfl, hbb, d0⟩ := ChSl.at_ (Sl.chgN HL.out.1 hchg HL.out.2.2.1) hx
              have hby := Sl.chgN hcok.sl hchg (HL.out.2.2.2 c hcm)
              have c0 : wr.cell? ⟨g, 0, none⟩ = some (.slice A1 nw cw) := h'.blk.cell 0
              have f0 := h'.blk.free 0
              have b3 : (0 : Int) ≤ (j : Int) := Int.natCast_nonneg _
              have b4 : (j : Int) < (n : Int) := by omega
              have e2 : IntKind.i64.wrap ((n : Int) - 1) = (n : Int) - 1 := IntWalk.i64_in _ (by omega)
              have hbl : c.bs.length ≤ 140737488355328 := by
                have h1 := H48.out c hcm
                have h2 := hcok.n.out
                omega
              have hby2 : BySl wr.drew wr.drew.heap.size c.A c.bs := hby.drew
              have HCY := Lib.hid (Bytes.copy_any c.bs c.A c.n c.cap wr.drew hby2 hbl hcok.n)
              have hgl := h'.blk.lt
              obtain ⟨bL, hbL⟩ : ∃ bL, ((j : Int) == (n : Int) - 1) = bL := ⟨_, rfl⟩
              have HbL : Hid (bL = decide (j + 1 = cs.length)) := by
                rw [Hid, ← hbL, ← hn.out]
                by_cases hq : j + 1 = n
                · simp only [hq, decide_true, beq_iff_eq]; omega
                · simp only [hq, decide_false, beq_eq_false_iff_ne]; omega
              have hwlen := h'.wlen
              have h1 : Hid (wp'.length + [c].length ≤ maxLen) := by rw [Hid, hwlen, loadW_len (by omega)]; simp [maxLen]; omega
              have h2 : Hid ((wp'.length + [c].length) * 40 ≤ 140737488355328) := by rw [Hid, hwlen, loadW_len (by omega)]; simp; omega
              have H1 := Lib.hid (And.intro h' (And.intro hchg (And.intro hF' (And.intro hbl hx))))
              clear h' hchg hF' hx hcok hby hby2 hbl hcm hwlen hnw hnilw
              go_upto_region 13 with fail
              go_region_law (first | (go_simp; go_at_call 58; refine (HCY.out).mono ?_; rintro e w2 ⟨v2, rfl, hown2, hb2⟩; obtain ⟨A2, n2, c2, rfl, _, _, _, _⟩ := (OwnA.of_own hown2).form; have hB2 : Below wr.heap.size wr w2 := (Below.drew (Below.refl _ _)).trans (hb2.mono (Nat.le_refl _)); have k0 : w2.cell? ⟨g, 0, none⟩ = some (.slice A1 nw cw) := (hB2.cell (p := ⟨g, 0, none⟩) hgl).trans c0; have hgl2 := Nat.lt_of_lt_of_le hgl hB2.size; have HP := Lib.hid (And.intro (OwnA.of_own hown2) (And.intro (fun k (hk : (Value.slice A2 n2 c2).ownBlock = some k) => (show wr.heap.size ≤ k from (hown2.lt hk).1)) hB2)); have HO3 : Hid (OwnA (w2.alloc (.cells #[.int .i64 0, .bool bL, .slice A2 n2 c2] 101)) 101 3 Pc.cells (.slice A1 nw cw) wp') := (H1.out.1.wo.own.ext hB2).ext (below_s _ _); have HB3 := Lib.hid ((H1.out.1.blk.ext hB2).ext (below_s w2 (.cells #[.int .i64 0, .bool bL, .slice A2 n2 c2] 101))); have HL3 := Lib.hid (pc27_lit (w2 := w2) (p := ⟨0, bL, A2, n2, c2, c.bs⟩)); clear hown2 hb2 hB2; dsimp only) | (refine step_append_a _ rfl _ _ _ rfl 101 i0 _ 3 40 Try.underlying38 hi0 hz hz1 hz2 rfl (by decide) Pc.cells_len Pc.cells_one (.slice A1 nw cw) wp' (by rfl) HO3.out _ (some ⟨w2.heap.size, 0, none⟩) [⟨0, bL, A2, n2, c2, c.bs⟩] 1 1 (by rfl) rfl HL3.out h1.out h2.out ?_; intro v4 w4 hown' hchg hat; obtain ⟨A4, n4, c4, rfl, _, _, _, _⟩ := hown'.form; have hb4 := HB3.out.chg hchg (fun hk => HO3.out.apart HB3.out (by decide) hk); have m0 := hb4.cell 0; have q0 := hb4.free 0; simp only [mkR, List.getElem?_toArray, List.getElem?_cons_zero] at m0; have HO := Lib.hid (And.intro hown' (And.intro hchg (And.intro hat hb4))); clear hown' hchg hat hb4))
              all_goals (
                go_wp2
                go_roundg (gk - 1)
                case measure => omega
                case rel =>
                  refine ⟨j + 1, by omega, by omega, by go_num, RndOp.trans' H1.out.2.1 H1.out.2.2.1 ?_⟩
                  have hP := rload_pack H1.out.1 HP.out.1 H1.out.2.2.2.1 HP.out.2.1 HP.out.2.2 HO.out.1 HO.out.2.1 HO.out.2.2.1 ⟨_, HO.out.2.2.2⟩ ((Chg.refl (fun k => k = g) w4).setCell (p := ⟨g, 0, none⟩) (fun _ => rfl) _) (HO.out.2.2.2.set_ 0 (.slice A4 n4 c4))
                  rw [loadW_succ H1.out.2.2.2.2, ← HbL.out]
                  exact hP)
            · have hjn : j = cs.length := by rw [← hn.out]; omega
              have HF := Lib.hid hop
              have b4 : ¬ (j : Int) < (n : Int) := by omega
              clear hop
              go_wp2
              go_ret
              exact ⟨ret_int he.out.1.symm, by rw [he.out.2, ← hjn]; exact HF.out⟩
end Go.Proofs.Ytiljpbncfofnhaa.Send
