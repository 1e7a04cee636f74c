/- SenderPlays: whatever is done to a sender, what it answers, sends, tells is what the document's sender does: whatever the input, the law returns true and leaves its arguments as they were. -/
import Derived.Test.YtiljpbncfofnhaaRSendI
import Derived.Test.YtiljpbncfofnhaaSendOpen
import Derived.Outline
import Derived.BigQuiet
import Derived.Deep.QuietTactic
import Derived.Deep.RegionWith
import Derived.Deep.RegionHeld3
import Derived.Deep.DrawnRows
import Derived.Deep.LoopGhost
import Derived.Deep.DeepCutAuto
import Derived.Laws.EntriesVeiled
import Derived.Deep.RegionLaw
import Derived.Deep.CutBlock
namespace Go.Proofs.Ytiljpbncfofnhaa.sendPla
open Go.RowKit Go.ChangeShapes Go.WideShapes Go.ChangeAt
set_option linter.unusedVariables false
set_option linter.unusedSimpArgs false
attribute [local go_sem ↓] Go.wp_at_zero Go.wp_at_succ
open Send

/-- what stands at each round's head -/
structure Two (w0 w : World) (g h : Nat) (s : St) : Prop where
  ex : ∃ F G, SIn w0 w g F s ∧ Rnd w h G s ∧ (∀ k, G k → w0.heap.size ≤ k) ∧ ∀ k, F k → ¬ G k
  ok : s.Ok
theorem two_new {w0 w : World} (hb : Below w0.heap.size w0 w) : Two w0 ((w.alloc (.cells (mkS (.slice none 0 0) (.slice none 0 0) 0 0 0 2) 96)).alloc (.cells (mkR (.slice none 0 0) (.slice none 0 0) 0 0 0 2) 46)) w.heap.size (w.heap.size + 1) z0 := by
  have h1 := SIn.new hb
  have h2 := h1.ext (below_s (w.alloc (.cells (mkS (.slice none 0 0) (.slice none 0 0) 0 0 0 2) 96)) (.cells (mkR (.slice none 0 0) (.slice none 0 0) 0 0 0 2) 46))
  have h3 := Rnd.new (w.alloc (.cells (mkS (.slice none 0 0) (.slice none 0 0) 0 0 0 2) 96))
  have e : (w.alloc (.cells (mkS (.slice none 0 0) (.slice none 0 0) 0 0 0 2) 96)).heap.size = w.heap.size + 1 := by simp
  rw [e] at h3
  exact ⟨⟨_, _, h2, h3, fun k hk => (by have := hb.size; omega), fun k hk hg => (by omega)⟩, zok.1⟩
theorem mod_byte (y : UInt8) : ((y.toNat : Int) + 1) % 256 = ((y + 1).toNat : Int) := by simp
/-- what stands behind each act -/
def Nxt (w0 w : World) (g h x : Nat) (ac : Send.Act) (m : Nat) : Prop := ∃ F G s, Both w0 w g h x ac F G s s ∧ s.tot ≤ m
theorem nxt_two {w0 w : World} {g h x : Nat} {ac : Send.Act} {F G : Nat → Prop} {s : St} (H : Both w0 w g h x ac F G s s) : Two w0 w g h s := ⟨⟨F, G, H.a, H.b, H.gb, H.ap⟩, H.sa⟩
set_option maxRecDepth 100000 in
set_option maxHeartbeats 8000000 in
theorem walk (l : List Send.Act) (A : Option Addr) (n cap : Nat) (w : World) (hl : Sl w w.heap.size 3 Act.cells A l) (hok : ∀ a ∈ l, Act.Ok w a) (hn : Hid (n = l.length)) (h63 : n ≤ maxLen) :
    Calls Try.prog 3 #[.slice A n cap] w fun e w' => e = .returned (.bool true) ∧ Below w.heap.size w w' := by
  cases hg : great l with
  | true =>
    have Hg := Lib.hid hg
    have HL := Lib.hid (And.intro hl hok)
    clear hl hok hg
    go_enter Try.func3, Try.ntmps3
    go_wp2_with fail
    refine (calls_val (v' := .bool true) (great_any l A n cap w HL.out.1 HL.out.2 hn h63) (by rw [Hg.out])).mono ?_; rintro e w' ⟨rfl, rfl⟩
    go_wp2
    go_ret
    exact ⟨rfl, Below.refl _ _⟩
  | false =>
    have Hg := Lib.hid hg
    obtain ⟨hn200, hacts⟩ := great_no hg
    rw [← hn.out] at hn200
    have HL := Lib.hid (And.intro hl (And.intro hok hacts))
    clear hl hok hg hacts
    go_enter Try.func3, Try.ntmps3
    go_wp2_with fail
    refine (calls_val (v' := .bool false) (great_any l A n cap w HL.out.1 HL.out.2.1 hn h63) (by rw [Hg.out])).mono ?_; rintro e w' ⟨rfl, rfl⟩
    go_wp2_with fail
    refine (new_any w).mono ?_; rintro e w' ⟨rfl, rfl⟩
    go_wp2_with fail
    refine (rnew_any _).mono ?_; rintro e w' ⟨rfl, rfl⟩
    have H0 := Lib.hid (two_new (Below.refl w.heap.size w))
    rw [show (w.alloc (.cells (mkS (.slice none 0 0) (.slice none 0 0) 0 0 0 2) 96)).heap.size = w.heap.size + 1 from by simp]
    generalize (w.alloc (.cells (mkS (.slice none 0 0) (.slice none 0 0) 0 0 0 2) 96)).alloc (.cells (mkR (.slice none 0 0) (.slice none 0 0) 0 0 0 2) 46) = w2 at *
    obtain ⟨g, hg⟩ : ∃ g, Hid (w.heap.size = g) := ⟨_, rfl⟩
    obtain ⟨h, hh⟩ : ∃ h, Hid (w.heap.size + 1 = h) := ⟨_, rfl⟩
    rw [hh.out, hg.out] at H0
    rw [hh.out, hg.out]
    go_wp2_with fail
    go_loopg [5] n (fun gk iv wr => ∃ (j : Nat) (s : St), n ≤ j + gk ∧ j ≤ n ∧ iv = .int .i64 j ∧ Hid (s.tot ≤ 400 * j) ∧ Hid (Two w wr g h s))
    case atStart => exact ⟨0, z0, by omega, by omega, rfl, by simp [Hid, St.tot, z0], H0⟩
    case round =>
      obtain ⟨j, s, hgk, hj, rfl, htot, HT⟩ := hrel
      by_cases hlt : j < n
      · have hlt' : j < l.length := by rw [← hn.out]; exact hlt
        obtain ⟨ac, hx⟩ : ∃ a, l[j]? = some a := ⟨_, List.getElem?_eq_getElem hlt'⟩
        have ham := List.mem_of_getElem? hx
        obtain ⟨F, G, hSI, hRn, hgb, hap⟩ := HT.out.ex
        have hbel := hSI.below
        obtain ⟨b, off, rfl, hbb, d0, d1, d2⟩ := act_at (Sl.below HL.out.1 hbel) hx
        obtain ⟨q1, q2, q3, q4⟩ := HL.out.2.2 ac ham
        have hk := (HL.out.2.1 ac ham).kind
        obtain ⟨hk1, hk2⟩ := hk
        have Ha := Lib.hid (And.intro (HL.out.2.1 ac ham) q4)
        have HB0 := Lib.hid (both_new (ac := ac) hSI hRn hgb hap HT.out.ok HT.out.ok)
        clear hx ham q4 hSI hRn hgb hap hbel hbb
        have b1 : (0 : Int) ≤ (j : Int) := Int.natCast_nonneg _
        have b2 : (j : Int) < (n : Int) := by omega
        go_upto_block 2 with fail
        obtain ⟨x, hxx⟩ : ∃ x, Hid (wr.heap.size = x) := ⟨_, rfl⟩
        rw [hxx.out] at HB0 ⊢
        clear d0 d1 d2
        generalize wr.alloc (.cells #[.int .u8 ac.kind, .int .i64 ac.seq, .slice ac.A ac.n ac.cap] 30) = wx at *
        go_cut [7, 30] (fun s7 s30 wy => s7 = .bool true ∧ Hid (Nxt w wy g h x ac (400 * (j + 1))))
        case first =>
          have hr : ac.kind % 8 = 0 ∨ ac.kind % 8 = 1 ∨ ac.kind % 8 = 2 ∨ ac.kind % 8 = 3 ∨ ac.kind % 8 = 4 ∨ ac.kind % 8 = 5 ∨ ac.kind % 8 = 6 ∨ ac.kind % 8 = 7 := by omega
          have H := HB0
          clear HB0
          have htm : Hid (s.tot ≤ 400 * (j + 1)) := by rw [Hid]; have := htot.out; omega
          have hjb : Hid (j ≤ 200) := by rw [Hid]; omega
          have k1 : wx.cell? ⟨x, 1, none⟩ = some (.int .i64 ac.seq) := H.out.box.cell 1
          have k2 : wx.cell? ⟨x, 2, none⟩ = some (.slice ac.A ac.n ac.cap) := H.out.box.cell 2
          rcases hr with hr | hr | hr | hr | hr | hr | hr | hr
          · have hbn : Hid (ac.n = (ac.cs.map Ch.bs).length) := by rw [Hid, List.length_map]; exact Ha.out.1.n.out
            have hts : s.tot + ac.n ≤ 900000 := by have h1 := htot.out; have h2 := hjb.out; omega
            have htn : Hid ((lS s (ac.cs.map Ch.bs)).tot ≤ 400 * (j + 1)) := by
              have h1 := (lS_facts s (ac.cs.map Ch.bs)).2.2.1
              have h2 := htot.out
              have h3 := hbn.out
              rw [Hid]; omega
            go_wp2_with fail
            refine (copied_any ac.cs ac.A ac.n ac.cap _ (Sl.ext Ha.out.1.sl H.out.a.below) (fun c hc => (Ha.out.1.each c hc).ext H.out.a.below) Ha.out.1.n (by omega) (fun c hc => (by have := Ha.out.2 c hc; omega))).mono ?_; rintro e w5 ⟨A2, n2, c2, rfl, qs, hO⟩
            have L := Lib.hid (Lds.start H.out hO)
            have hqs := Lib.hid hO.bs
            have hn2 : Hid (n2 = ac.n) := by
              have h1 := congrArg List.length hO.bs
              rw [List.length_map] at h1
              rw [Hid, hO.own.len, h1, ← hbn.out]
            obtain ⟨B0, hB0⟩ : ∃ B0, Hid (wx.heap.size = B0) := ⟨_, rfl⟩
            obtain ⟨B1, hB1⟩ : ∃ B1, Hid (w5.heap.size = B1) := ⟨_, rfl⟩
            rw [hB0.out, hB1.out] at L
            have hm2 : n2 ≤ 1000 := by have := hn2.out; omega
            have hts2 : s.tot + n2 ≤ 900000 := by have := hn2.out; omega
            clear hO H k1 k2
            have k2 : w5.cell? ⟨x, 2, none⟩ = some (.slice ac.A ac.n ac.cap) := L.out.both.box.cell 2
            go_upto_region 15 with fail
            go_cut [7] (fun s7 wy => s7 = .bool true ∧ Hid (∃ F1 G1, Lds w wy g h x ac F1 G1 (lS s (ac.cs.map Ch.bs)) (lS s (ac.cs.map Ch.bs)) B0 B1 (.slice A2 n2 c2) qs 0))
            case first =>
              go_region_with (first | (go_at_call 17; refine (lds_l (L.out.ext (w' := _) (by repeat (first | exact Below.refl _ _ | assumption | refine Below.drew ?_ | refine bdrewN ?_ _ | refine Below.alloc ?_ (by simp; try omega) _ | refine Below.setCell ?_ (by simp; try omega) _))) (ac.cs.map Ch.bs) hqs.out hm2 hts2).mono ?_; rintro e w6 ⟨rfl, F6, L6⟩; have L := Lib.hid L6; clear L6; have k2 : w6.cell? ⟨x, 2, none⟩ = some (.slice ac.A ac.n ac.cap) := L.out.both.box.cell 2) | (go_at_call 18; refine (lds_r (L.out.ext (w' := _) (by repeat (first | exact Below.refl _ _ | assumption | refine Below.drew ?_ | refine bdrewN ?_ _ | refine Below.alloc ?_ (by simp; try omega) _ | refine Below.setCell ?_ (by simp; try omega) _))) Ha.out.1.sl Ha.out.1.each Ha.out.1.n (by omega) hts).mono ?_; rintro e w6 ⟨rfl, F6, L6⟩; have L := Lib.hid L6; clear L6; have k2 : w6.cell? ⟨x, 2, none⟩ = some (.slice ac.A ac.n ac.cap) := L.out.both.box.cell 2))
              all_goals (
                have LN : Hid (∃ F1 G1, Lds w _ g h x ac F1 G1 (lS s (ac.cs.map Ch.bs)) (lS s (ac.cs.map Ch.bs)) B0 B1 (.slice A2 n2 c2) qs 0) := ⟨_, _, L.out⟩
                clear L
                go_wp2_with fail
                go_meet
                exact ⟨rfl, LN.out⟩)
            case rest =>
              obtain ⟨rfl, hL⟩ := hcut
              obtain ⟨F1, G1, L1⟩ := hL.out
              have L1 := Lib.hid L1
              clear L k2 hL
              generalize gk = g0 at *
              generalize wr = W0 at *
              go_wp2
              go_loopg [7, 9] n2 (fun gk v7 v9 wr => ∃ k : Nat, v7 = .bool true ∧ v9 = .int .i64 (k : Int) ∧ n2 ≤ k + gk ∧ k ≤ n2 ∧ Hid (Lds w wr g h x ac F1 G1 (lS s (ac.cs.map Ch.bs)) (lS s (ac.cs.map Ch.bs)) B0 B1 (.slice A2 n2 c2) qs k))
              case atStart => exact ⟨0, rfl, rfl, by omega, by omega, ⟨L1.out.both, L1.out.mine, L1.out.fa, L1.out.ga, L1.out.xa, L1.out.b0, L1.out.b1⟩⟩
              case round =>
                obtain ⟨k, rfl, rfl, hgk2, hkk, hL⟩ := hrel
                have k2 : wr.cell? ⟨x, 2, none⟩ = some (.slice ac.A ac.n ac.cap) := hL.out.both.box.cell 2
                by_cases hkn : k < n2
                · have hkq : k < qs.length := by rw [← hL.out.len]; exact hkn
                  have hkc : k < ac.cs.length := by have h1 := hn2.out; have h2 := Ha.out.1.n.out; omega
                  have hx := List.getElem?_eq_getElem hkq
                  have hy := List.getElem?_eq_getElem hkc
                  obtain ⟨vb, vo, rfl, hvb, y0⟩ := ChSl.at_ (hL.out.mine.own.sl Ch.cells_len) hx
                  obtain ⟨ub, uo, hub', hub, z0⟩ := ChSl.at_ (Sl.ext Ha.out.1.sl hL.out.both.a.below) hy
                  rw [hub'] at k2
                  have R1 := Lib.hid (own_ok (hL.out.mine.ok k _ (Nat.le_refl _) hx))
                  have R2 := Lib.hid ((Ha.out.1.each _ (List.mem_of_getElem? hy)).ext hL.out.both.a.below)
                  have hcc : Hid ((qs[k]).bs = (ac.cs[k]).bs) := by
                    have h1 := congrArg (fun l => l[k]?) hqs.out
                    simp only [List.getElem?_map, hx, hy, Option.map_some, Option.some.injEq] at h1
                    exact h1
                  have hcl := Lib.hid (Ha.out.2 _ (List.mem_of_getElem? hy))
                  have HE := Lib.hid (hL.out.enter hx)
                  generalize qs[k] = c at *
                  generalize ac.cs[k] = d at *
                  have hcn : c.n ≤ 100 := by have h1 := R1.out.n.out; have h2 := R2.out.n.out; have h3 := hcl.out; have h4 := hcc.out; rw [h4] at h1; omega
                  have HS : Hid (∀ q, Calls Try.prog 19 #[.slice c.A c.n c.cap, .slice d.A d.n d.cap] (wr.drewN q) fun e w' => e = .returned (.bool true) ∧ ∃ n, w' = (wr.drewN q).drewN n) := fun q => same_y c.bs c.A d.A c.n d.n c.cap d.cap _ (R1.out.sl.ext (bdrewN (Below.refl _ _) q)) (by rw [hcc.out]; exact R2.out.sl.ext (bdrewN (Below.refl _ _) q)) R1.out.n (by rw [hcc.out]; exact R2.out.n) (by have h1 := R1.out.n.out; unfold maxLen; omega)
                  have e1 : (0 : Int) ≤ (k : Int) := Int.natCast_nonneg _
                  have e2 : (k : Int) < (n2 : Int) := by omega
                  have e3 : (k : Int) < (ac.n : Int) := by have h1 := hn2.out; omega
                  clear hx hy hkq hkc hub hub' hvb
                  go_upto_region 19 with fail
                  go_quiet ((go_at_call 19; with_reducible exact Calls.quiet_of (HS.out _)))
                  have HE2 := Lib.hid (HE.out.ext (bdrewN (Below.refl _ _) nq))
                  clear HE HS R1 R2 z0 y0 k2
                  generalize wr.drewN nq = W2 at *
                  generalize gk = g1 at *
                  go_wp2
                  go_loopg [10] c.n (fun gk v10 wr => ∃ (i : Nat) (bs : List UInt8), v10 = .int .i64 (i : Int) ∧ c.n ≤ i + gk ∧ i ≤ c.n ∧ Hid (LdIn w wr g h x ac F1 G1 (lS s (ac.cs.map Ch.bs)) (lS s (ac.cs.map Ch.bs)) B0 B1 (.slice (some ⟨vb, vo, none⟩) n2 c2) qs k c bs))
                  case atStart => exact ⟨0, c.bs, rfl, by omega, by omega, HE2.out⟩
                  case round =>
                    obtain ⟨i, bs, rfl, hgk3, hii, hP⟩ := hrel
                    obtain ⟨vb', vo', hvv, hvb', y0⟩ := ChSl.at_ (hP.out.q.mine.own.sl Ch.cells_len) hP.out.cur
                    injection hvv with hvv
                    injection hvv with hv1 hv2 _
                    subst hv1; subst hv2
                    have hbn := hP.out.by_.len
                    have f1 : (0 : Int) ≤ (i : Int) := Int.natCast_nonneg _
                    by_cases hin : i < c.n
                    · have hkl : i < bs.length := by rw [← hbn]; exact hin
                      obtain ⟨fb, fo, hfA, hfb, x0⟩ := BySl.at_ (hP.out.by_.sl encB_len) (List.getElem?_eq_getElem hkl)
                      rw [hfA] at y0
                      obtain ⟨off', cap', cur, hv, hgg, _⟩ := hP.out.by_.row (g := fb) (by rw [hfA]; rfl)
                      have fz : wr.frozen? ⟨fb, fo + i, none⟩ = false := frozen_of_row wr fb _ cur _ hgg
                      have HA := Lib.hid (And.intro hfA hkl)
                      have f2 : (i : Int) < (c.n : Int) := by omega
                      generalize bs[i] = y at *
                      clear hfA hkl hv hgg hbn hvb' hfb
                      go_wp2
                      go_roundg (gk - 1)
                      case measure => omega
                      case rel => exact ⟨i + 1, _, by go_num, by omega, by omega, by rw [mod_byte y]; exact hP.out.step HA.out.1 HA.out.2⟩
                    · have f2 : ¬ (i : Int) < (c.n : Int) := by omega
                      have f5 : decide (i < c.n) = false := decide_eq_false hin
                      have HQ := Lib.hid hP.out.q
                      clear hP hbn hvb'
                      go_wp2
                      go_roundg (g1 - 1)
                      case measure => omega
                      case rel => exact ⟨k + 1, rfl, by go_num, by omega, by omega, HQ.out⟩
                · have e2 : ¬ (k : Int) < (n2 : Int) := by omega
                  have e5 : decide (k < n2) = false := decide_eq_false hkn
                  have HN : Hid (Nxt w wr g h x ac (400 * (j + 1))) := ⟨_, _, _, hL.out.both, htn.out⟩
                  clear hL k2
                  go_wp2
                  go_meet
                  exact ⟨rfl, HN.out⟩
          · clear k1 k2
            have sof := sendS_facts s
            have htn : Hid ((sendS s).tot ≤ 400 * (j + 1)) := (by rw [Hid, sof.2.2.1]; exact htm.out)
            clear sof
            go_wp2_with fail
            refine (send_l H.out).mono ?_; rintro e w5 ⟨A5, n5, c5, F5, R5, ps5, rfl, T5, hn5⟩
            have hm5 : n5 ≤ 100000 := by
              have h1 := congrArg List.length T5.core
              rw [List.length_map, ← hn5.out] at h1
              rw [h1]
              exact (by have h2 := tot_last s; have h3 := htm.out; have h4 := hjb.out; unfold sendO; rw [numd_len, List.length_take]; omega)
            have T5 := Lib.hid T5
            go_wp2_with fail
            refine (taken_l T5.out hn5 hm5).mono ?_; rintro e w6 ⟨A6, n6, c6, qs6, rfl, T6⟩
            have hm6 : n6 ≤ 100000 := by
              have h1 := congrArg List.length T6.core
              have h2 := congrArg List.length T5.out.core
              rw [List.length_map] at h1 h2
              have h3 := T6.n.out
              have h4 := hn5.out
              omega
            have T6 := Lib.hid T6
            go_wp2_with fail
            refine (send_r T6.out).mono ?_; rintro e w7 ⟨B7, m7, d7, G7, rs7, rfl, T7⟩
            have T7 := Lib.hid T7
            go_wp2_with fail
            refine (same_p T7.out hm6).mono ?_; rintro e w8 ⟨rfl, H8⟩
            have HN : Hid (Nxt w w8 g h x ac (400 * (j + 1))) := ⟨_, _, _, H8, htn.out⟩
            clear H8 T5 T6 T7
            go_wp2_with fail
            go_meet
            exact ⟨rfl, HN.out⟩
          · clear k1 k2
            have sof := sendS_facts s
            have htn : Hid ((sendS s).tot ≤ 400 * (j + 1)) := (by rw [Hid, sof.2.2.1]; exact htm.out)
            clear sof
            go_wp2_with fail
            refine (send_l H.out).mono ?_; rintro e w5 ⟨A5, n5, c5, F5, R5, ps5, rfl, T5, hn5⟩
            have hm5 : n5 ≤ 100000 := by
              have h1 := congrArg List.length T5.core
              rw [List.length_map, ← hn5.out] at h1
              rw [h1]
              exact (by have h2 := tot_last s; have h3 := htm.out; have h4 := hjb.out; unfold sendO; rw [numd_len, List.length_take]; omega)
            have T5 := Lib.hid T5
            go_wp2_with fail
            refine (taken_l T5.out hn5 hm5).mono ?_; rintro e w6 ⟨A6, n6, c6, qs6, rfl, T6⟩
            have hm6 : n6 ≤ 100000 := by
              have h1 := congrArg List.length T6.core
              have h2 := congrArg List.length T5.out.core
              rw [List.length_map] at h1 h2
              have h3 := T6.n.out
              have h4 := hn5.out
              omega
            have T6 := Lib.hid T6
            go_wp2_with fail
            refine (send_r T6.out).mono ?_; rintro e w7 ⟨B7, m7, d7, G7, rs7, rfl, T7⟩
            have T7 := Lib.hid T7
            go_wp2_with fail
            refine (same_p T7.out hm6).mono ?_; rintro e w8 ⟨rfl, H8⟩
            have HN : Hid (Nxt w w8 g h x ac (400 * (j + 1))) := ⟨_, _, _, H8, htn.out⟩
            clear H8 T5 T6 T7
            go_wp2_with fail
            go_meet
            exact ⟨rfl, HN.out⟩
          · have htn : Hid ((ackS s ac.seq).tot ≤ 400 * (j + 1)) := by rw [Hid, tot_last, (ackS_facts s ac.seq).2.1, (ackS_facts s ac.seq).2.2.1]; exact htm.out
            go_upto_region 28 with fail
            go_region_with (first | (go_at_call 24; refine (ack_l (H.out.ext (w' := _) (by repeat (first | exact Below.refl _ _ | assumption | refine Below.drew ?_ | refine bdrewN ?_ _ | refine Below.alloc ?_ (by simp; try omega) _ | refine Below.setCell ?_ (by simp; try omega) _))) ac.seq (by omega) (by omega)).mono ?_; rintro e w5 ⟨rfl, F5, H5⟩; have H := Lib.hid H5; clear H5; have k1 : w5.cell? ⟨x, 1, none⟩ = some (.int .i64 ac.seq) := H.out.box.cell 1) | (go_at_call 25; refine (ack_r (H.out.ext (w' := _) (by repeat (first | exact Below.refl _ _ | assumption | refine Below.drew ?_ | refine bdrewN ?_ _ | refine Below.alloc ?_ (by simp; try omega) _ | refine Below.setCell ?_ (by simp; try omega) _))) ac.seq (by omega) (by omega)).mono ?_; rintro e w5 ⟨rfl, F5, H5⟩; have H := Lib.hid H5; clear H5; have k1 : w5.cell? ⟨x, 1, none⟩ = some (.int .i64 ac.seq) := H.out.box.cell 1))
            all_goals (
              have HN : Hid (Nxt w _ g h x ac (400 * (j + 1))) := ⟨_, _, _, H.out, htn.out⟩
              clear H
              go_wp2_with fail
              go_meet
              exact ⟨rfl, HN.out⟩)
          · obtain ⟨B, nf, cf, hnf, r1, r3⟩ := H.out.reads
            have hac : (s.acked : Int) ≤ 1000000 := by have h1 := H.out.sa.all; omega
            have h0a : (0 : Int) ≤ (s.acked : Int) := Int.natCast_nonneg _
            obtain ⟨sq, hsq⟩ : ∃ sq : Int, Hid ((s.acked : Int) + ac.seq = sq) := ⟨_, rfl⟩
            have hs1 : -9223372036854775808 ≤ sq := by have := hsq.out; omega
            have hs2 : sq ≤ 9223372036854775807 := by have := hsq.out; omega
            have htn : Hid ((ackS s sq).tot ≤ 400 * (j + 1)) := by rw [Hid, tot_last, (ackS_facts s sq).2.1, (ackS_facts s sq).2.2.1]; exact htm.out
            clear hnf r1 k2
            have y1 : IntKind.i64.wrap ((s.acked : Int) + ac.seq) = sq := (IntWalk.i64_in _ (by omega)).trans hsq.out
            go_upto_region 30 with fail
            go_quiet (fail)
            have H := Lib.hid (H.out.ext (bdrewN (Below.refl _ _) nq))
            clear k1 r3
            go_wp2_with fail
            refine (ack_l H.out sq hs1 hs2).mono ?_; rintro e w5 ⟨rfl, F5, H5⟩
            have H5 := Lib.hid H5
            go_wp2_with fail
            refine (ack_r H5.out sq hs1 hs2).mono ?_; rintro e w6 ⟨rfl, G6, H6⟩
            have HN : Hid (Nxt w w6 g h x ac (400 * (j + 1))) := ⟨_, _, _, H6, htn.out⟩
            clear H6 H5
            go_wp2_with fail
            go_meet
            exact ⟨rfl, HN.out⟩
          · clear k1 k2
            have sof := tickS_facts s
            have htn : Hid ((tickS s).tot ≤ 400 * (j + 1)) := (by rw [Hid]; simp only [St.tot, sof.1, sof.2.1, sof.2.2.1]; exact htm.out)
            clear sof
            go_wp2_with fail
            refine (tick_l H.out).mono ?_; rintro e w5 ⟨A5, n5, c5, F5, R5, ps5, rfl, T5, hn5⟩
            have hm5 : n5 ≤ 100000 := by
              have h1 := congrArg List.length T5.core
              rw [List.length_map, ← hn5.out] at h1
              rw [h1]
              exact (by rcases tickO_or s with h9 | h9 <;> rw [h9] <;> first | (simp; done) | (rw [numd_len]; have h8 := H.out.sa.fl; omega))
            have T5 := Lib.hid T5
            go_wp2_with fail
            refine (taken_l T5.out hn5 hm5).mono ?_; rintro e w6 ⟨A6, n6, c6, qs6, rfl, T6⟩
            have hm6 : n6 ≤ 100000 := by
              have h1 := congrArg List.length T6.core
              have h2 := congrArg List.length T5.out.core
              rw [List.length_map] at h1 h2
              have h3 := T6.n.out
              have h4 := hn5.out
              omega
            have T6 := Lib.hid T6
            go_wp2_with fail
            refine (tick_r T6.out).mono ?_; rintro e w7 ⟨B7, m7, d7, G7, rs7, rfl, T7⟩
            have T7 := Lib.hid T7
            go_wp2_with fail
            refine (same_p T7.out hm6).mono ?_; rintro e w8 ⟨rfl, H8⟩
            have HN : Hid (Nxt w w8 g h x ac (400 * (j + 1))) := ⟨_, _, _, H8, htn.out⟩
            clear H8 T5 T6 T7
            go_wp2_with fail
            go_meet
            exact ⟨rfl, HN.out⟩
          · clear k1 k2
            have sof := tickS_facts s
            have htn : Hid ((tickS s).tot ≤ 400 * (j + 1)) := (by rw [Hid]; simp only [St.tot, sof.1, sof.2.1, sof.2.2.1]; exact htm.out)
            clear sof
            go_wp2_with fail
            refine (tick_l H.out).mono ?_; rintro e w5 ⟨A5, n5, c5, F5, R5, ps5, rfl, T5, hn5⟩
            have hm5 : n5 ≤ 100000 := by
              have h1 := congrArg List.length T5.core
              rw [List.length_map, ← hn5.out] at h1
              rw [h1]
              exact (by rcases tickO_or s with h9 | h9 <;> rw [h9] <;> first | (simp; done) | (rw [numd_len]; have h8 := H.out.sa.fl; omega))
            have T5 := Lib.hid T5
            go_wp2_with fail
            refine (taken_l T5.out hn5 hm5).mono ?_; rintro e w6 ⟨A6, n6, c6, qs6, rfl, T6⟩
            have hm6 : n6 ≤ 100000 := by
              have h1 := congrArg List.length T6.core
              have h2 := congrArg List.length T5.out.core
              rw [List.length_map] at h1 h2
              have h3 := T6.n.out
              have h4 := hn5.out
              omega
            have T6 := Lib.hid T6
            go_wp2_with fail
            refine (tick_r T6.out).mono ?_; rintro e w7 ⟨B7, m7, d7, G7, rs7, rfl, T7⟩
            have T7 := Lib.hid T7
            go_wp2_with fail
            refine (same_p T7.out hm6).mono ?_; rintro e w8 ⟨rfl, H8⟩
            have HN : Hid (Nxt w w8 g h x ac (400 * (j + 1))) := ⟨_, _, _, H8, htn.out⟩
            clear H8 T5 T6 T7
            go_wp2_with fail
            go_meet
            exact ⟨rfl, HN.out⟩
          · clear k1 k2
            have sof := tickS_facts s
            have htn : Hid ((tickS s).tot ≤ 400 * (j + 1)) := (by rw [Hid]; simp only [St.tot, sof.1, sof.2.1, sof.2.2.1]; exact htm.out)
            clear sof
            go_wp2_with fail
            refine (tick_l H.out).mono ?_; rintro e w5 ⟨A5, n5, c5, F5, R5, ps5, rfl, T5, hn5⟩
            have hm5 : n5 ≤ 100000 := by
              have h1 := congrArg List.length T5.core
              rw [List.length_map, ← hn5.out] at h1
              rw [h1]
              exact (by rcases tickO_or s with h9 | h9 <;> rw [h9] <;> first | (simp; done) | (rw [numd_len]; have h8 := H.out.sa.fl; omega))
            have T5 := Lib.hid T5
            go_wp2_with fail
            refine (taken_l T5.out hn5 hm5).mono ?_; rintro e w6 ⟨A6, n6, c6, qs6, rfl, T6⟩
            have hm6 : n6 ≤ 100000 := by
              have h1 := congrArg List.length T6.core
              have h2 := congrArg List.length T5.out.core
              rw [List.length_map] at h1 h2
              have h3 := T6.n.out
              have h4 := hn5.out
              omega
            have T6 := Lib.hid T6
            go_wp2_with fail
            refine (tick_r T6.out).mono ?_; rintro e w7 ⟨B7, m7, d7, G7, rs7, rfl, T7⟩
            have T7 := Lib.hid T7
            go_wp2_with fail
            refine (same_p T7.out hm6).mono ?_; rintro e w8 ⟨rfl, H8⟩
            have HN : Hid (Nxt w w8 g h x ac (400 * (j + 1))) := ⟨_, _, _, H8, htn.out⟩
            clear H8 T5 T6 T7
            go_wp2_with fail
            go_meet
            exact ⟨rfl, HN.out⟩
        case rest =>
          obtain ⟨rfl, hN⟩ := hcut
          obtain ⟨F', G', t, H, ht⟩ := hN.out
          have H := Lib.hid H
          obtain ⟨B, nf, cf, hnf, r1, r3⟩ := H.out.reads
          have hnf := Lib.hid hnf
          obtain ⟨bI, hbI⟩ : ∃ bI, Hid ((t.fl.isEmpty && t.wt.isEmpty) = bI) := ⟨_, rfl⟩
          have i1 := fun q => Lib.hid (idle_l H.out q)
          have i2 := fun q => Lib.hid (idle_r H.out q)
          have i3 := fun q => Lib.hid (flying_l H.out q)
          have i4 := fun q => Lib.hid (acked_l H.out q)
          rw [hbI.out] at i1 i2
          rw [← hnf.out] at i3
          obtain ⟨pk, hpk⟩ : ∃ pk : Nat, Hid (t.acked = pk) := ⟨_, rfl⟩
          rw [hpk.out] at i4 r3
          have t1 : (bI != bI) = false := by cases bI <;> rfl
          have t2 : (bI == bI) = true := by cases bI <;> rfl
          have t3 : ((nf : Int) != (nf : Int)) = false := by simp
          have t4 : ((pk : Int) != (pk : Int)) = false := by simp
          go_upto_region 32 with fail
          go_quiet ((first | (go_at_call 28; with_reducible exact Calls.quiet_of (i1 _).out) | (go_at_call 29; with_reducible exact Calls.quiet_of (i2 _).out) | (go_at_call 30; with_reducible exact Calls.quiet_of (i3 _).out) | (go_at_call 31; with_reducible exact Calls.quiet_of (i4 _).out)))
          have HT2 := Lib.hid (nxt_two (H.out.ext (bdrewN (Below.refl _ _) nq)))
          go_wp2
          go_roundg (gk - 1)
          case measure => omega
          case rel => exact ⟨j + 1, t, by omega, by omega, by go_num, ht, HT2.out⟩
      · have HB := Lib.hid (show Below w.heap.size w wr by obtain ⟨F, G, h, _⟩ := HT.out.ex; exact h.below)
        go_wp2
        go_ret
        exact ⟨rfl, HB.out⟩
end Go.Proofs.Ytiljpbncfofnhaa.sendPla
