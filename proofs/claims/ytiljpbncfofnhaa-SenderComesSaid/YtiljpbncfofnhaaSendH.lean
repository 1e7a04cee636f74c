/- sender: Load of the program, whole. -/
import Derived.Test.YtiljpbncfofnhaaSendG
import Derived.Outline
import Derived.BigQuiet
import Derived.Deep.QuietTactic
import Derived.Deep.RegionWith
import Derived.Deep.RegionHeld3
import Derived.Deep.DrawnRows
import Derived.Deep.LoopGhost
import Derived.Deep.DeepCutAuto
import Derived.Laws.EntriesVeiled
import Derived.BigRegion
import Derived.WalkLawsBesides
import Derived.Deep.RegionLaw
namespace Go.Proofs.Ytiljpbncfofnhaa.Send
open Go.RowKit Go.ChangeShapes Go.WideShapes Go.ChangeAt
set_option linter.unusedVariables false
set_option linter.unusedSimpArgs false
attribute [local go_sem ↓] Go.wp_at_zero Go.wp_at_succ

theorem snd_op_refl {w : World} {g : Nat} {F : Nat → Prop} {s : St} (h : Snd w g F s) : SndOp w g F s w := ⟨F, h, Chg.refl _ _, fun k hk => .inl hk⟩
theorem SndOp.trans {w w1 w2 : World} {g : Nat} {F : Nat → Prop} {s s' s2 : St} (h : SndOp w g F s w1) (h2 : ∀ F', Snd w1 g F' s → SndOp w1 g F' s2 w2) : SndOp w g F s2 w2 := by
  obtain ⟨F1, a1, a2, a3⟩ := h
  obtain ⟨F2, b1, b2, b3⟩ := h2 F1 a1
  refine ⟨F2, b1, a2.trans b2 (fun i hi h => (a3 i h).elim id (fun h => by omega)), fun k hk => ?_⟩
  rcases b3 k hk with h | h
  · exact a3 k h
  · exact .inr (Nat.le_trans a2.size h)

theorem SndOp.trans' {w w1 w2 : World} {g : Nat} {F F' : Nat → Prop} {s2 : St} (a2 : Chg F w w1) (a3 : ∀ k, F' k → F k ∨ w.heap.size ≤ k) (h2 : SndOp w1 g F' s2 w2) : SndOp w g F s2 w2 := by
  obtain ⟨F2, b1, b2, b3⟩ := h2
  refine ⟨F2, b1, a2.trans b2 (fun i hi h => (a3 i h).elim id (fun h => by omega)), fun k hk => ?_⟩
  rcases b3 k hk with h | h
  · exact a3 k h
  · exact .inr (Nat.le_trans a2.size h)
theorem loadW_succ {s : St} {cs : List Ch} {j : Nat} {c : Ch} (hx : cs[j]? = some c) : loadW s cs (j + 1) = { loadW s cs j with wt := (loadW s cs j).wt ++ [(decide (j + 1 = cs.length), c.bs)] } := by
  have hj : j < cs.length := (List.getElem?_eq_some_iff.1 hx).1
  have hm : (cs.map Ch.bs).take (j + 1) = (cs.map Ch.bs).take j ++ [c.bs] := by
    rw [List.take_add_one, List.getElem?_map, hx]; rfl
  simp only [loadW, hm, flg_append]
  congr 1
  simp only [flg, List.length_take, List.length_map, Nat.zero_add, Nat.min_eq_left (Nat.le_of_lt hj)]
theorem loadW_len {s : St} {cs : List Ch} {j : Nat} (hj : j ≤ cs.length) : (loadW s cs j).wt.length = j := by
  simp [loadW, flg_len, hj]
theorem pc_block {w2 : World} {p : Pc} : Sl (w2.alloc (.cells #[.int .i64 p.seq, .bool p.last, .slice p.A p.n p.cap] 57)) (w2.alloc (.cells #[.int .i64 p.seq, .bool p.last, .slice p.A p.n p.cap] 57)).heap.size 3 Pc.cells (some ⟨w2.heap.size, 0, none⟩) [p] :=
  fun _ => ⟨w2.heap.size, 0, rfl, by simp, fun k x hx j v hv => by
    rcases k with _ | k
    · simp at hx; subst hx
      rw [show (⟨w2.heap.size, 0 + 0 * 3 + j, none⟩ : Addr) = ⟨w2.heap.size, j, none⟩ from by simp, (Blk.new w2 _ _).cell j]
      simpa [Pc.cells] using hv
    · simp at hx⟩

set_option maxRecDepth 100000 in
set_option maxHeartbeats 2000000 in
theorem load_any (w : World) (g : Nat) (F : Nat → Prop) (s : St) (h : Snd w g F s) (hs : s.Ok) (cs : List Ch) (A : Option Addr) (n cap : Nat) (hl : ChSl w w.heap.size A cs) (hok : ∀ c ∈ cs, Ch.Ok w c) (hn : Hid (n = cs.length)) (hm : n ≤ 1000)
    (hA : cs ≠ [] → ∀ k, blockOf A = some k → ¬ F k) (hE : ∀ c ∈ cs, c.bs ≠ [] → ∀ k, blockOf c.A = some k → ¬ F k) (htot : s.acked + n ≤ 900000) :
    Calls Try.prog 17 #[.pointer (some ⟨g, 0, none⟩), .slice A n cap] w fun e w' => e = .returned (.int .i64 (loadE s cs)) ∧ SndOp w g F (loadS s cs) w' := by
  have hh := h
  obtain ⟨wv, fv, wp, fp, h⟩ := h
  obtain ⟨B, nf, cf, rfl, hnf, hle, hmx, hnil⟩ := h.fo.own.form
  obtain ⟨A1, nw, cw, rfl, hnw, hlew, hmxw, hnilw⟩ := h.wo.own.form
  have hfl : nf = s.fl.length := hnf.out.trans h.flen
  have hwl : nw = s.wt.length := hnw.out.trans h.wlen
  have b1 := hs.fl
  have b2 := hs.all
  have c0 : w.cell? ⟨g, 0, none⟩ = some (.bool true) := h.blk.cell 0
  have HI := Lib.hid (idle_made w g A1 B nw cw nf cf _ _ _ _ h.blk (by omega) (by omega))
  have HW := Lib.hid (wcontains_any cs A n cap w hl hok hn (by unfold maxLen; omega))
  have hne0 : Hid ((n = 0) ↔ cs = []) := by rw [Hid, hn.out]; exact List.length_eq_zero_iff
  by_cases t0 : n = 0
  · have he := Lib.hid (show loadE s cs = 2 ∧ loadS s cs = s by
      have : cs = [] := hne0.out.1 t0
      subst this
      simp [loadE, loadS, wrongC])
    subst t0
    have HH := Lib.hid hh
    clear h hh hle hmx hnil hnf hfl hwl hnw hlew hmxw hnilw
    go_enter Try.func17, Try.ntmps17
    go_wp2_with (first | (go_at_call 60; refine (none_made g 0 _ c0).mono ?_; rintro e w' ⟨rfl, rfl⟩))
    go_ret
    exact ⟨ret_int he.out.1.symm, by rw [he.out.2]; exact snd_op_refl HH.out⟩
  · have ht0 : ((n : Int) == 0) = false := by simp; omega
    have hcs : cs ≠ [] := fun e => t0 (hne0.out.2 e)
    cases hwr : cs.any (fun c => wrongB c.n) with
    | true =>
      have he := Lib.hid (show loadE s cs = 2 ∧ loadS s cs = s by simp [loadE, loadS, wrongC, hwr])
      rw [hwr] at HW
      have HH := Lib.hid hh
      clear h hh hle hmx hnil hnf hfl hwl hnw hlew hmxw hnilw hcs hwr
      go_enter Try.func17, Try.ntmps17
      go_wp2_with (first | (go_at_call 60; refine (none_made g 0 _ c0).mono ?_; rintro e w' ⟨rfl, rfl⟩) | (go_at_call 61; refine (HW.out).mono ?_; rintro e w' ⟨rfl, rfl⟩))
      go_ret
      exact ⟨ret_int he.out.1.symm, by rw [he.out.2]; exact snd_op_refl HH.out⟩
    | false =>
      have hwc : wrongC cs = false := by simp [wrongC, hcs, hwr]
      rw [hwr] at HW
      by_cases t1 : nw + nf = 0
      · have ht1 : ((nw : Int) + (nf : Int) == 0) = true := by simp; omega
        rw [ht1] at HI
        have hfl0 : s.fl = [] := List.eq_nil_of_length_eq_zero (by omega)
        have hwt0 : s.wt = [] := List.eq_nil_of_length_eq_zero (by omega)
        have he := Lib.hid (show loadE s cs = 0 ∧ loadS s cs = loadW s cs cs.length by
          have : loadE s cs = 0 := by simp [loadE, hwc, hfl0, hwt0]
          exact ⟨this, by rw [loadS, if_pos this]⟩)
        have Hgf := Lib.hid (h.fg)
        have H48 := Lib.hid (show ∀ c ∈ cs, c.n ≤ 48 from fun c hc => by
          have := List.any_eq_false.1 hwr c hc
          simp [wrongB] at this; omega)
        have hst := Lib.hid (show loadW s cs 0 = s by simp [loadW, flg, ← hwt0])
        have HH := Lib.hid (And.intro hh (And.intro hfl0 hwt0))
        have HL := Lib.hid (And.intro hl (And.intro hok (And.intro hA hE)))
        have hmI : (n : Int) ≤ 1000 := by omega
        have e2 : IntKind.i64.wrap ((n : Int) - 1) = (n : Int) - 1 := IntWalk.i64_in _ (by omega)
        clear h hh hle hmx hnil hnf hfl hwl hnw hlew hmxw hnilw hcs hwr hwc hfl0 hwt0 hl hok hA hE t1
        go_enter Try.func17, Try.ntmps17
        go_wp2_with (first | (go_at_call 60; refine (none_made g 0 _ c0).mono ?_; rintro e w' ⟨rfl, rfl⟩) | (go_at_call 61; refine (HW.out).mono ?_; rintro e w' ⟨rfl, rfl⟩) | (go_at_call 28; refine (HI.out).mono ?_; rintro e w' ⟨rfl, mm, rfl⟩))
        go_loopg [26] n (fun gk v wr => ∃ j : Nat, n ≤ j + gk ∧ j ≤ n ∧ v = .int .i64 j ∧ SndOp w g F (loadW s cs j) wr)
        case atStart => exact ⟨0, by omega, by omega, rfl, by rw [hst.out]; exact snd_drew HH.out.1 _⟩
        case round =>
          obtain ⟨j, hg, hj, rfl, hop⟩ := hrel
          by_cases hlt : j < n
          · obtain ⟨F', ⟨wv', fv', wp', fp', h'⟩, hchg, hF'⟩ := hop
            obtain ⟨A1', nw', cw', rfl, hnw', _⟩ := h'.wo.own.form
            have hjl : j < cs.length := by rw [← hn.out]; exact hlt
            obtain ⟨c, hx⟩ : ∃ c, cs[j]? = some c := ⟨_, List.getElem?_eq_getElem hjl⟩
            have hcm := List.mem_of_getElem? hx
            have hcok := HL.out.2.1 c hcm
            obtain ⟨b, off, rfl, hbb, d0⟩ := ChSl.at_ (Sl.chgN HL.out.1 hchg HL.out.2.2.1) hx
            have hby := Sl.chgN hcok.sl hchg (HL.out.2.2.2 c hcm)
            obtain ⟨S, hS⟩ : ∃ S : Int, Hid (S = ((s.acked + s.fl.length + j : Nat) : Int)) := ⟨_, rfl⟩
            have hS0 : 0 ≤ S ∧ S ≤ 1000000 := by
              have hf0 : s.fl.length = 0 := by rw [HH.out.2.1]; rfl
              rw [hS.out]; omega
            obtain ⟨hS1, hS2⟩ := hS0
            have hblk : Blk wr g 96 (mkS (.slice A1' nw' cw') fv' S (s.acked : Int) s.waited s.patience) := by
              have := h'.blk
              rw [loadW_len (by omega)] at this
              rw [hS.out]; exact this
            have c3 : wr.cell? ⟨g, 3, none⟩ = some (.int .i64 S) := hblk.cell 3
            have f3 := hblk.free 3
            have e3 : IntKind.i64.wrap (S + 1) = S + 1 := IntWalk.i64_in _ (by omega)
            have b3 : (0 : Int) ≤ (j : Int) := Int.natCast_nonneg _
            have b4 : (j : Int) < (n : Int) := by omega
            have hW1 : Chg (fun k => k = g) wr (wr.setCell ⟨g, 3, none⟩ (.int .i64 (S + 1))) := (Chg.refl (fun k => k = g) wr).setCell (p := ⟨g, 3, none⟩) (fun _ => rfl) _
            have hblk1 : Blk (wr.setCell ⟨g, 3, none⟩ (.int .i64 (S + 1))) g 96 (mkS (.slice A1' nw' cw') fv' (S + 1) (s.acked : Int) s.waited s.patience) := hblk.set_ 3 _
            have hbyW : BySl (wr.setCell ⟨g, 3, none⟩ (.int .i64 (S + 1))) (wr.setCell ⟨g, 3, none⟩ (.int .i64 (S + 1))).heap.size c.A c.bs := Sl.chgN hby hW1 (fun hne k hk hs => HL.out.2.2.2 c hcm hne k hk (hs ▸ Hgf.out))
            have hbl : c.bs.length ≤ 140737488355328 := by
              have h1 := H48.out c hcm
              have h2 := hcok.n.out
              omega
            have HB := Lib.hid (bytesClone_any c.bs c.A c.n c.cap (wr.setCell ⟨g, 3, none⟩ (.int .i64 (S + 1))).drew hbyW.drew (by omega) hcok.n hcok.nil hcok.cap)
            have k3 : (wr.setCell ⟨g, 3, none⟩ (.int .i64 (S + 1))).cell? ⟨g, 3, none⟩ = some (.int .i64 (S + 1)) := hblk1.cell 3
            have hgl := hblk1.lt
            have H1 := Lib.hid (And.intro h' (And.intro hchg (And.intro hF' (And.intro hW1 (And.intro hblk1 (And.intro hbl (And.intro hx hnw')))))))
            have hwlen := h'.wlen
            have Hwl : Hid (wp'.length = j) := by rw [Hid, hwlen, loadW_len (by omega)]
            clear h' hchg hF' hx hcok hby hblk hnw' hW1 hblk1 hbyW hbl hcm hwlen
            go_wp2_with fail
            go_region_law (first | (go_simp; go_at_call 63; refine (HB.out).mono ?_; rintro e w2 ⟨v2, rfl, hown2, hfr2, hb2⟩; obtain ⟨A2, n2, c2, rfl, _, _, _, _⟩ := hown2.form; have k3' : w2.cell? ⟨g, 3, none⟩ = some (.int .i64 (S + 1)) := (hb2.cell (p := ⟨g, 3, none⟩) hgl).trans k3; have HP := Lib.hid (And.intro hown2 (And.intro hfr2 hb2)); clear hown2 hfr2 hb2; dsimp only) | (go_simp; go_at_call 62; refine (put_any _ g A1' nw' cw' fv' (S + 1) _ _ _ wp' [⟨S + 1, ((j : Int) == (n : Int) - 1), A2, n2, c2, c.bs⟩] ((H1.out.2.2.2.2.1.drew.ext HP.out.2.2).alloc _) (((H1.out.1.wo.other H1.out.2.2.2.1 H1.out.1.blk (by decide) (by decide)).own.drew.ext HP.out.2.2).alloc _) _ 1 1 (pc_block (p := ⟨S + 1, ((j : Int) == (n : Int) - 1), A2, n2, c2, c.bs⟩)) rfl (by rw [Hwl.out]; simp; omega)).mono ?_; rintro e w5 ⟨rfl, A4, n4, c4, w4, rfl, o1, o2, o3, o4⟩; have HO := Lib.hid (And.intro o1 (And.intro o2 (And.intro o3 o4))); clear o1 o2 o3 o4; dsimp only))
            all_goals
              go_wp2
              go_roundg (gk - 1)
              case measure => omega
              case rel =>
                refine ⟨j + 1, by omega, by omega, by go_num, SndOp.trans' H1.out.2.1 H1.out.2.2.1 ?_⟩
                have hsz : (wr.setCell ⟨g, 3, none⟩ (.int .i64 (S + 1))).drew.heap.size = wr.heap.size := by simp [World.setCell]
                have hjn : ((j : Int) == (n : Int) - 1) = decide (j + 1 = cs.length) := by
                  rw [← hn.out]
                  by_cases hq : j + 1 = n
                  · simp only [hq, decide_true, beq_iff_eq]; omega
                  · simp only [hq, decide_false, beq_eq_false_iff_ne]; omega
                refine load_pack H1.out.1 (H1.out.2.2.2.1.drew) hsz HP.out.1 H1.out.2.2.2.2.2.1 HP.out.2.1 HP.out.2.2 ((Below.refl _ _).alloc (Nat.le_refl _) _) HO.out.1 HO.out.2.1 HO.out.2.2.1 ⟨_, HO.out.2.2.2⟩ ((Chg.refl (fun k => k = g) w4).setCell (p := ⟨g, 1, none⟩) (fun _ => rfl) _) (by rw [hjn]; exact loadW_succ H1.out.2.2.2.2.2.2.1) ?_ ?_
                · rw [loadW_len (by omega), hS.out]; simp [loadW]
                · have hb5 := HO.out.2.2.2.set_ 1 (.slice A4 n4 c4)
                  rw [loadW_len (by omega)]
                  rw [hS.out] at hb5
                  exact hb5
          · have hjn : j = cs.length := by rw [← hn.out]; omega
            have HF := Lib.hid hop
            clear hop
            go_wp2
            go_ret
            exact ⟨ret_int he.out.1.symm, by rw [he.out.2, ← hjn]; exact HF.out⟩
      · have ht1 : ((nw : Int) + (nf : Int) == 0) = false := by simp; omega
        rw [ht1] at HI
        have he := Lib.hid (show loadE s cs = 4 ∧ loadS s cs = s by
          have : ¬ (s.fl = [] ∧ s.wt = []) := fun ⟨a, b⟩ => t1 (by rw [hwl, hfl, a, b]; rfl)
          simp [loadE, loadS, hwc, this])
        have HH := Lib.hid hh
        clear h hh hle hmx hnil hnf hfl hwl hnw hlew hmxw hnilw hcs hwr hwc
        go_enter Try.func17, Try.ntmps17
        go_wp2_with (first | (go_at_call 60; refine (none_made g 0 _ c0).mono ?_; rintro e w' ⟨rfl, rfl⟩) | (go_at_call 61; refine (HW.out).mono ?_; rintro e w' ⟨rfl, rfl⟩) | (go_at_call 28; refine (HI.out).mono ?_; rintro e w' ⟨rfl, mm, rfl⟩))
        go_ret
        exact ⟨ret_int he.out.1.symm, by rw [he.out.2]; exact snd_drew HH.out _⟩
end Go.Proofs.Ytiljpbncfofnhaa.Send
