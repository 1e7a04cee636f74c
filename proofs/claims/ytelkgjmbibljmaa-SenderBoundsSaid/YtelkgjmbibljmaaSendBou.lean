/- SenderBounds: at most Window pieces fly, and their numbers are those behind Acked, one behind the other; what is sent anew is all that flies: whatever the input, the law returns true and leaves its arguments as they were. -/
import Derived.Test.YtelkgjmbibljmaaSendK
import Derived.Test.YtelkgjmbibljmaaSendOpen
import Derived.Outline
import Derived.BigQuiet
import Derived.Deep.QuietTactic
import Derived.Deep.RegionWith
import Derived.Deep.RegionHeld3
import Derived.Deep.DrawnRows
import Derived.Deep.LoopGhost
import Derived.Deep.DeepCutAuto
import Derived.Laws.EntriesVeiled
import Derived.Deep.RegionLaw
namespace Go.Proofs.Ytelkgjmbibljmaa.sendBou
open Go.RowKit Go.ChangeShapes Go.WideShapes Go.ChangeAt
set_option linter.unusedVariables false
set_option linter.unusedSimpArgs false
attribute [local go_sem ↓] Go.wp_at_zero Go.wp_at_succ
open Send


set_option maxRecDepth 100000 in
set_option maxHeartbeats 4000000 in
theorem walk (l : List Send.Act) (A : Option Addr) (n cap : Nat) (w : World) (hl : Sl w w.heap.size 3 Act.cells A l) (hok : ∀ a ∈ l, Act.Ok w a) (hn : Hid (n = l.length)) (h63 : n ≤ maxLen) :
    Calls Try.prog 6 #[.slice A n cap] w fun e w' => e = .returned (.bool true) ∧ Below w.heap.size w w' := by
  cases hg : great l with
  | true =>
    have Hg := Lib.hid hg
    have HL := Lib.hid (And.intro hl hok)
    clear hl hok hg
    go_enter Try.func6, Try.ntmps6
    go_wp2_with fail
    refine (awake_any w).mono ?_; rintro e w1 ⟨rfl, hb1⟩
    have HB1 := Lib.hid hb1
    clear hb1
    go_wp2_with fail
    refine (calls_val (v' := .bool true) (great_any l A n cap w1 (Sl.ext HL.out.1 HB1.out) (fun a ha => (HL.out.2 a ha).ext HB1.out) hn h63) (by rw [Hg.out])).mono ?_; rintro e w' ⟨rfl, rfl⟩
    go_wp2
    go_ret
    exact ⟨rfl, HB1.out⟩
  | false =>
    have Hg := Lib.hid hg
    obtain ⟨hn200, hacts⟩ := great_no hg
    rw [← hn.out] at hn200
    have HL := Lib.hid (And.intro hl (And.intro hok hacts))
    clear hl hok hg hacts
    go_enter Try.func6, Try.ntmps6
    go_wp2_with fail
    refine (awake_any w).mono ?_; rintro e w1 ⟨rfl, hb1⟩
    have HB1 := Lib.hid hb1
    clear hb1
    go_wp2_with fail
    refine (calls_val (v' := .bool false) (great_any l A n cap w1 (Sl.ext HL.out.1 HB1.out) (fun a ha => (HL.out.2.1 a ha).ext HB1.out) hn h63) (by rw [Hg.out])).mono ?_; rintro e w' ⟨rfl, rfl⟩
    go_wp2_with fail
    refine (new_any w1).mono ?_; rintro e w' ⟨rfl, rfl⟩
    obtain ⟨F0, S0⟩ : ∃ F, Hid (SIn w (w1.alloc (.cells (mkS (.slice none 0 0) (.slice none 0 0) 0 0 0 2) 42)) w1.heap.size F z0) := ⟨_, SIn.new HB1.out⟩
    generalize w1.alloc (.cells (mkS (.slice none 0 0) (.slice none 0 0) 0 0 0 2) 42) = w2 at *
    obtain ⟨g, hg⟩ : ∃ g, Hid (w1.heap.size = g) := ⟨_, rfl⟩
    rw [hg.out] at S0 ⊢
    go_wp2_with fail
    go_loopg [4, 5] n (fun gk lv iv wr => ∃ (j m : Nat) (s : St) (F : Nat → Prop), n ≤ j + gk ∧ j ≤ n ∧ iv = .int .i64 j ∧ lv = .int .i64 m ∧ Hid (m = s.last) ∧ Hid s.Ok ∧ Hid (s.tot ≤ 400 * j) ∧ Hid (SIn w wr g F s))
    case atStart => exact ⟨0, 0, z0, F0, by omega, by omega, rfl, rfl, rfl, zok.1, by simp [Hid, St.tot, z0], S0⟩
    case round =>
      obtain ⟨j, m, s, F, hgk, hj, rfl, rfl, hm, hso, htot, HS⟩ := hrel
      by_cases hlt : j < n
      · have hlt' : j < l.length := by rw [← hn.out]; exact hlt
        obtain ⟨a, hx⟩ : ∃ a, l[j]? = some a := ⟨_, List.getElem?_eq_getElem hlt'⟩
        have ham := List.mem_of_getElem? hx
        obtain ⟨b, off, rfl, hbb, d0, d1, d2⟩ := act_at (Sl.below HL.out.1 HS.out.below) hx
        obtain ⟨q1, q2, q3, q4⟩ := HL.out.2.2 a ham
        have hk := (HL.out.2.1 a ham).kind
        obtain ⟨hk1, hk2⟩ := hk
        have Ha := Lib.hid (And.intro (HL.out.2.1 a ham) q4)
        clear hx ham q4
        have b1 : (0 : Int) ≤ (j : Int) := Int.natCast_nonneg _
        have b2 : (j : Int) < (n : Int) := by omega
        have hmb : Hid (m ≤ 100000) := by
          rw [Hid, hm.out]
          have := htot.out
          have := tot_last s
          omega
        have hmb' := hmb.out
        have hbw : b < wr.heap.size := World.block_lt_of_cell? wr ⟨b, _, none⟩ d0
        have hbn : b ≠ wr.heap.size := by omega
        have z0 : ∀ o : Obj, (wr.alloc o).cell? ⟨b, off + j * 3, none⟩ = some (.int .u8 a.kind) := fun o => (World.cell?_alloc_lt wr o ⟨b, _, none⟩ hbw).trans d0
        have z1 : ∀ o : Obj, (wr.alloc o).cell? ⟨b, off + j * 3 + 1, none⟩ = some (.int .i64 a.seq) := fun o => (World.cell?_alloc_lt wr o ⟨b, _, none⟩ hbw).trans d1
        have z2 : ∀ o : Obj, (wr.alloc o).cell? ⟨b, off + j * 3 + 2, none⟩ = some (.slice a.A a.n a.cap) := fun o => (World.cell?_alloc_lt wr o ⟨b, _, none⟩ hbw).trans d2
        go_upto_region 12 with fail
        go_cut [6, 7] (fun s6 s7 wx => s6 = .pointer (some ⟨wr.heap.size, 0, none⟩) ∧ s7 = .int .i64 (s.acked : Int) ∧ Hid (wx = (wr.alloc (.cells #[.int .u8 a.kind, .int .i64 a.seq, .slice a.A a.n a.cap] 37)).drew))
        case first =>
          go_region_with (go_at_call 25; refine (acked_in (HS.out.ext (w' := _) (by repeat (first | exact Below.refl _ _ | assumption | refine Below.drew ?_ | refine bdrewN ?_ _ | refine Below.alloc ?_ (by simp; try omega) _ | refine Below.setCell ?_ (by simp; try omega) _)))).mono ?_; rintro e w' ⟨rfl, rfl⟩)
          all_goals (go_wp2_with fail; go_meet; exact ⟨rfl, rfl, by rw [Hid]⟩)
        case rest =>
          obtain ⟨rfl, rfl, hwx⟩ := hcut
          have hbw' : Below wr.heap.size wr wc := by
            rw [hwx.out]; exact ((Below.refl _ _).alloc (Nat.le_refl _) _).drew
          have HSa := Lib.hid (HS.out.ext hbw')
          have k0 : wc.cell? ⟨wr.heap.size, 0, none⟩ = some (.int .u8 a.kind) := by rw [hwx.out]; exact (Blk.new wr _ _).cell 0
          have k1 : wc.cell? ⟨wr.heap.size, 1, none⟩ = some (.int .i64 a.seq) := by rw [hwx.out]; exact (Blk.new wr _ _).cell 1
          have k2 : wc.cell? ⟨wr.heap.size, 2, none⟩ = some (.slice a.A a.n a.cap) := by rw [hwx.out]; exact (Blk.new wr _ _).cell 2
          have hac : (s.acked : Int) ≤ 100000 := by
            have := htot.out
            have := tot_last s
            simp only [St.last] at this
            omega
          have h0a : (0 : Int) ≤ (s.acked : Int) := Int.natCast_nonneg _
          have htm : Hid (s.tot ≤ 400 * (j + 1)) := by rw [Hid]; have := htot.out; omega
          have hr : a.kind % 8 = 0 ∨ a.kind % 8 = 1 ∨ a.kind % 8 = 2 ∨ a.kind % 8 = 3 ∨ a.kind % 8 = 4 ∨ a.kind % 8 = 5 ∨ a.kind % 8 = 6 ∨ a.kind % 8 = 7 := by omega
          clear d0 d1 d2 z0 z1 z2 hbw'
          rcases hr with hr | hr | hr | hr | hr | hr | hr | hr
          · have hlf := lS_facts s (a.cs.map Ch.bs)
            have hbl : (a.cs.map Ch.bs).length = a.n := by rw [List.length_map, Ha.out.1.n.out]
            have LD := Lib.hid (load_in HSa.out hso.out a.cs a.A a.n a.cap (Sl.ext Ha.out.1.sl HSa.out.below) (fun c hc => (Ha.out.1.each c hc).ext HSa.out.below) Ha.out.1.n (by omega)
              (fun hne k hk hF => by have h1 := HSa.out.base k hF; have h2 := Sl.blk_lt Ha.out.1.sl hne k hk; omega) (fun c hc hne k hk hF => by have h1 := HSa.out.base k hF; have h2 := Sl.blk_lt (Ha.out.1.each c hc).sl hne k hk; omega) (by omega))
            have hla : Hid (m = (lS s (a.cs.map Ch.bs)).last) := by rw [Hid, hm.out]; simp only [St.last, hlf.1, hlf.2.1]
            have hge : Hid (s.acked ≤ (lS s (a.cs.map Ch.bs)).acked) := by rw [Hid, hlf.2.1]; omega
            have hto : Hid ((lS s (a.cs.map Ch.bs)).tot ≤ 400 * (j + 1)) := by rw [Hid]; have := hlf.2.2.1; rw [hbl] at this; have := htot.out; omega
            have sok : Hid (lS s (a.cs.map Ch.bs)).Ok := hlf.2.2.2 hso.out (by rw [hbl]; have := htot.out; omega)
            clear hlf hbl
            go_wp2_with fail
            refine (LD.out).mono ?_; rintro e w5 ⟨rfl, F', S, _, _⟩
            have S := Lib.hid S
            clear k0 k1 k2
            obtain ⟨p, hp⟩ : ∃ p : Nat, Hid ((lS s (a.cs.map Ch.bs)).acked = p) := ⟨_, rfl⟩
            obtain ⟨q, hq⟩ : ∃ q : Nat, Hid ((lS s (a.cs.map Ch.bs)).fl.length = q) := ⟨_, rfl⟩
            have t1 : (q : Int) ≤ 4 := by have := sok.out.fl; have := hq.out; omega
            have t2 : (s.acked : Int) ≤ (p : Int) := by have := hp.out; have := hge.out; omega
            have t3 : IntKind.i64.wrap ((p : Int) + (q : Int)) = (m : Int) := by
              have := hla.out
              have := hp.out
              have := hq.out
              have := sok.out.all
              simp only [St.last] at *
              rw [IntWalk.i64_in _ (by omega)]
              omega
            have t4 : (0 : Int) ≤ (s.acked : Int) := Int.natCast_nonneg _
            go_wp2_with fail
            refine (calls_val (v' := .int .i64 (q : Int)) (flying_in S.out) (by rw [hq.out])).mono ?_; rintro e w' ⟨rfl, rfl⟩
            go_wp2_with fail
            refine (calls_val (v' := .int .i64 (p : Int)) (acked_in S.out) (by rw [hp.out])).mono ?_; rintro e w' ⟨rfl, rfl⟩
            go_wp2_with fail
            refine (calls_val (v' := .int .i64 (p : Int)) (acked_in S.out) (by rw [hp.out])).mono ?_; rintro e w' ⟨rfl, rfl⟩
            go_wp2_with fail
            refine (calls_val (v' := .int .i64 (q : Int)) (flying_in S.out) (by rw [hq.out])).mono ?_; rintro e w' ⟨rfl, rfl⟩
            go_wp2_with fail
            have hid := idle_in S.out sok.out
            cases hI : ((lS s (a.cs.map Ch.bs)).fl.isEmpty && (lS s (a.cs.map Ch.bs)).wt.isEmpty) with
            | false =>
              rw [hI] at hid
              have hid := Lib.hid hid
              clear hI
              refine (hid.out).mono ?_; rintro e w9 ⟨rfl, S9⟩
              have S9 := Lib.hid S9
              go_wp2
              go_roundg (gk - 1)
              case measure => omega
              case rel => exact ⟨j + 1, m, (lS s (a.cs.map Ch.bs)), F', by omega, by omega, by go_num, by go_num, hla, sok, hto, S9⟩
            | true =>
              rw [hI] at hid
              have hid := Lib.hid hid
              have hfe : (lS s (a.cs.map Ch.bs)).fl = [] := by
                rw [Bool.and_eq_true, List.isEmpty_iff] at hI; exact hI.1
              have hq0 : q = 0 := by rw [← hq.out, hfe]; rfl
              clear hI hfe
              subst hq0
              refine (hid.out).mono ?_; rintro e w9 ⟨rfl, S9⟩
              have S9 := Lib.hid S9
              go_wp2_with fail
              refine (calls_val (v' := .int .i64 0) (flying_in S9.out) (by rw [hq.out]; rfl)).mono ?_; rintro e w' ⟨rfl, rfl⟩
              go_wp2
              go_roundg (gk - 1)
              case measure => omega
              case rel => exact ⟨j + 1, m, (lS s (a.cs.map Ch.bs)), F', by omega, by omega, by go_num, by go_num, hla, sok, hto, S9⟩
          · have hsf := sendS_facts s
            have sok : Hid (sendS s).Ok := hsf.2.2.2 hso.out
            have hge : Hid (s.acked ≤ (sendS s).acked) := by rw [Hid, hsf.1]; omega
            have hto : Hid ((sendS s).tot ≤ 400 * (j + 1)) := by rw [Hid, hsf.2.2.1]; exact htm.out
            have hnl : Hid ((sendO s).length ≤ 1000000 ∧ (sendO s).length = (s.wt.take (sendK s)).length) := by
              have h1 : (sendO s).length = (s.wt.take (sendK s)).length := by unfold sendO; rw [numd_len]
              refine ⟨?_, h1⟩
              rw [h1, List.length_take]
              have := tot_last s
              have := htot.out
              omega
            have hsl : Hid ((sendS s).last = s.last + (s.wt.take (sendK s)).length) := hsf.2.1
            clear hsf
            go_wp2_with fail
            refine (send_in HSa.out hso.out).mono ?_; rintro e w5 ⟨A6, n6, c6, F', R6, ps6, rfl, O6⟩
            have h6 : Hid (n6 = (sendO s).length) := O6.len
            have O6 := Lib.hid O6
            have h6b : (n6 : Int) ≤ 1000000 := by have := h6.out; have := hnl.out.1; omega
            have x1 : IntKind.i64.wrap ((m : Int) + 1) = (m : Int) + 1 := IntWalk.i64_in _ (by omega)
            have x2 : IntKind.i64.wrap ((m : Int) + (n6 : Int)) = (m : Int) + (n6 : Int) := IntWalk.i64_in _ (by omega)
            clear k0 k1 k2
            go_wp2_with fail
            refine (calls_val (v' := .bool true) (numbers_in O6.out hnl.out.1 _ _ (by omega) (by omega) (by omega) (by omega)) (by
              have hnn := numB_numd (s.wt.take (sendK s)) (s.acked + s.fl.length)
              rw [← hnl.out.2, ← h6.out] at hnn
              have e0 : s.acked + s.fl.length = m := hm.out.symm
              rw [e0] at hnn
              have e1 : sendO s = numd m (s.wt.take (sendK s)) := by unfold sendO; rw [e0]
              rw [e1]
              exact congrArg Value.bool hnn)).mono ?_; rintro e w' ⟨rfl, rfl⟩
            have S : Hid (SIn w w5 g F' (sendS s)) := O6.out.sin
            have hla : Hid (m + n6 = (sendS s).last) := by rw [Hid, hsl.out, ← hnl.out.2, ← h6.out, hm.out]
            obtain ⟨p, hp⟩ : ∃ p : Nat, Hid ((sendS s).acked = p) := ⟨_, rfl⟩
            obtain ⟨q, hq⟩ : ∃ q : Nat, Hid ((sendS s).fl.length = q) := ⟨_, rfl⟩
            have t1 : (q : Int) ≤ 4 := by have := sok.out.fl; have := hq.out; omega
            have t2 : (s.acked : Int) ≤ (p : Int) := by have := hp.out; have := hge.out; omega
            have t3 : IntKind.i64.wrap ((p : Int) + (q : Int)) = ((m : Int) + (n6 : Int)) := by
              have := hla.out
              have := hp.out
              have := hq.out
              have := sok.out.all
              simp only [St.last] at *
              rw [IntWalk.i64_in _ (by omega)]
              omega
            have t4 : (0 : Int) ≤ (s.acked : Int) := Int.natCast_nonneg _
            go_wp2_with fail
            refine (calls_val (v' := .int .i64 (q : Int)) (flying_in S.out) (by rw [hq.out])).mono ?_; rintro e w' ⟨rfl, rfl⟩
            go_wp2_with fail
            refine (calls_val (v' := .int .i64 (p : Int)) (acked_in S.out) (by rw [hp.out])).mono ?_; rintro e w' ⟨rfl, rfl⟩
            go_wp2_with fail
            refine (calls_val (v' := .int .i64 (p : Int)) (acked_in S.out) (by rw [hp.out])).mono ?_; rintro e w' ⟨rfl, rfl⟩
            go_wp2_with fail
            refine (calls_val (v' := .int .i64 (q : Int)) (flying_in S.out) (by rw [hq.out])).mono ?_; rintro e w' ⟨rfl, rfl⟩
            go_wp2_with fail
            have hid := idle_in S.out sok.out
            cases hI : ((sendS s).fl.isEmpty && (sendS s).wt.isEmpty) with
            | false =>
              rw [hI] at hid
              have hid := Lib.hid hid
              clear hI
              refine (hid.out).mono ?_; rintro e w9 ⟨rfl, S9⟩
              have S9 := Lib.hid S9
              go_wp2
              go_roundg (gk - 1)
              case measure => omega
              case rel => exact ⟨j + 1, (m + n6), (sendS s), F', by omega, by omega, by go_num, by go_num, hla, sok, hto, S9⟩
            | true =>
              rw [hI] at hid
              have hid := Lib.hid hid
              have hfe : (sendS s).fl = [] := by
                rw [Bool.and_eq_true, List.isEmpty_iff] at hI; exact hI.1
              have hq0 : q = 0 := by rw [← hq.out, hfe]; rfl
              clear hI hfe
              subst hq0
              refine (hid.out).mono ?_; rintro e w9 ⟨rfl, S9⟩
              have S9 := Lib.hid S9
              go_wp2_with fail
              refine (calls_val (v' := .int .i64 0) (flying_in S9.out) (by rw [hq.out]; rfl)).mono ?_; rintro e w' ⟨rfl, rfl⟩
              go_wp2
              go_roundg (gk - 1)
              case measure => omega
              case rel => exact ⟨j + 1, (m + n6), (sendS s), F', by omega, by omega, by go_num, by go_num, hla, sok, hto, S9⟩
          · have hsf := sendS_facts s
            have sok : Hid (sendS s).Ok := hsf.2.2.2 hso.out
            have hge : Hid (s.acked ≤ (sendS s).acked) := by rw [Hid, hsf.1]; omega
            have hto : Hid ((sendS s).tot ≤ 400 * (j + 1)) := by rw [Hid, hsf.2.2.1]; exact htm.out
            have hnl : Hid ((sendO s).length ≤ 1000000 ∧ (sendO s).length = (s.wt.take (sendK s)).length) := by
              have h1 : (sendO s).length = (s.wt.take (sendK s)).length := by unfold sendO; rw [numd_len]
              refine ⟨?_, h1⟩
              rw [h1, List.length_take]
              have := tot_last s
              have := htot.out
              omega
            have hsl : Hid ((sendS s).last = s.last + (s.wt.take (sendK s)).length) := hsf.2.1
            clear hsf
            go_wp2_with fail
            refine (send_in HSa.out hso.out).mono ?_; rintro e w5 ⟨A6, n6, c6, F', R6, ps6, rfl, O6⟩
            have h6 : Hid (n6 = (sendO s).length) := O6.len
            have O6 := Lib.hid O6
            have h6b : (n6 : Int) ≤ 1000000 := by have := h6.out; have := hnl.out.1; omega
            have x1 : IntKind.i64.wrap ((m : Int) + 1) = (m : Int) + 1 := IntWalk.i64_in _ (by omega)
            have x2 : IntKind.i64.wrap ((m : Int) + (n6 : Int)) = (m : Int) + (n6 : Int) := IntWalk.i64_in _ (by omega)
            clear k0 k1 k2
            go_wp2_with fail
            refine (calls_val (v' := .bool true) (numbers_in O6.out hnl.out.1 _ _ (by omega) (by omega) (by omega) (by omega)) (by
              have hnn := numB_numd (s.wt.take (sendK s)) (s.acked + s.fl.length)
              rw [← hnl.out.2, ← h6.out] at hnn
              have e0 : s.acked + s.fl.length = m := hm.out.symm
              rw [e0] at hnn
              have e1 : sendO s = numd m (s.wt.take (sendK s)) := by unfold sendO; rw [e0]
              rw [e1]
              exact congrArg Value.bool hnn)).mono ?_; rintro e w' ⟨rfl, rfl⟩
            have S : Hid (SIn w w5 g F' (sendS s)) := O6.out.sin
            have hla : Hid (m + n6 = (sendS s).last) := by rw [Hid, hsl.out, ← hnl.out.2, ← h6.out, hm.out]
            obtain ⟨p, hp⟩ : ∃ p : Nat, Hid ((sendS s).acked = p) := ⟨_, rfl⟩
            obtain ⟨q, hq⟩ : ∃ q : Nat, Hid ((sendS s).fl.length = q) := ⟨_, rfl⟩
            have t1 : (q : Int) ≤ 4 := by have := sok.out.fl; have := hq.out; omega
            have t2 : (s.acked : Int) ≤ (p : Int) := by have := hp.out; have := hge.out; omega
            have t3 : IntKind.i64.wrap ((p : Int) + (q : Int)) = ((m : Int) + (n6 : Int)) := by
              have := hla.out
              have := hp.out
              have := hq.out
              have := sok.out.all
              simp only [St.last] at *
              rw [IntWalk.i64_in _ (by omega)]
              omega
            have t4 : (0 : Int) ≤ (s.acked : Int) := Int.natCast_nonneg _
            go_wp2_with fail
            refine (calls_val (v' := .int .i64 (q : Int)) (flying_in S.out) (by rw [hq.out])).mono ?_; rintro e w' ⟨rfl, rfl⟩
            go_wp2_with fail
            refine (calls_val (v' := .int .i64 (p : Int)) (acked_in S.out) (by rw [hp.out])).mono ?_; rintro e w' ⟨rfl, rfl⟩
            go_wp2_with fail
            refine (calls_val (v' := .int .i64 (p : Int)) (acked_in S.out) (by rw [hp.out])).mono ?_; rintro e w' ⟨rfl, rfl⟩
            go_wp2_with fail
            refine (calls_val (v' := .int .i64 (q : Int)) (flying_in S.out) (by rw [hq.out])).mono ?_; rintro e w' ⟨rfl, rfl⟩
            go_wp2_with fail
            have hid := idle_in S.out sok.out
            cases hI : ((sendS s).fl.isEmpty && (sendS s).wt.isEmpty) with
            | false =>
              rw [hI] at hid
              have hid := Lib.hid hid
              clear hI
              refine (hid.out).mono ?_; rintro e w9 ⟨rfl, S9⟩
              have S9 := Lib.hid S9
              go_wp2
              go_roundg (gk - 1)
              case measure => omega
              case rel => exact ⟨j + 1, (m + n6), (sendS s), F', by omega, by omega, by go_num, by go_num, hla, sok, hto, S9⟩
            | true =>
              rw [hI] at hid
              have hid := Lib.hid hid
              have hfe : (sendS s).fl = [] := by
                rw [Bool.and_eq_true, List.isEmpty_iff] at hI; exact hI.1
              have hq0 : q = 0 := by rw [← hq.out, hfe]; rfl
              clear hI hfe
              subst hq0
              refine (hid.out).mono ?_; rintro e w9 ⟨rfl, S9⟩
              have S9 := Lib.hid S9
              go_wp2_with fail
              refine (calls_val (v' := .int .i64 0) (flying_in S9.out) (by rw [hq.out]; rfl)).mono ?_; rintro e w' ⟨rfl, rfl⟩
              go_wp2
              go_roundg (gk - 1)
              case measure => omega
              case rel => exact ⟨j + 1, (m + n6), (sendS s), F', by omega, by omega, by go_num, by go_num, hla, sok, hto, S9⟩
          · have haf := ackS_facts s (a.seq)
            have sok : Hid (ackS s (a.seq)).Ok := haf.2.2.2 hso.out
            have hge : Hid (s.acked ≤ (ackS s (a.seq)).acked) := haf.1
            have hla : Hid (m = (ackS s (a.seq)).last) := by rw [Hid, haf.2.1]; exact hm.out
            have hto : Hid ((ackS s (a.seq)).tot ≤ 400 * (j + 1)) := by rw [Hid, tot_last, haf.2.1, haf.2.2.1]; exact htm.out
            have y1 : IntKind.i64.wrap ((s.acked : Int) + a.seq) = (s.acked : Int) + a.seq := IntWalk.i64_in _ (by omega)
            clear haf
            go_wp2_with fail
            refine (ack_in HSa.out hso.out (a.seq) (by omega) (by omega)).mono ?_; rintro e w5 ⟨rfl, F', S⟩
            have S := Lib.hid S
            clear k0 k1 k2 y1
            obtain ⟨p, hp⟩ : ∃ p : Nat, Hid ((ackS s (a.seq)).acked = p) := ⟨_, rfl⟩
            obtain ⟨q, hq⟩ : ∃ q : Nat, Hid ((ackS s (a.seq)).fl.length = q) := ⟨_, rfl⟩
            have t1 : (q : Int) ≤ 4 := by have := sok.out.fl; have := hq.out; omega
            have t2 : (s.acked : Int) ≤ (p : Int) := by have := hp.out; have := hge.out; omega
            have t3 : IntKind.i64.wrap ((p : Int) + (q : Int)) = (m : Int) := by
              have := hla.out
              have := hp.out
              have := hq.out
              have := sok.out.all
              simp only [St.last] at *
              rw [IntWalk.i64_in _ (by omega)]
              omega
            have t4 : (0 : Int) ≤ (s.acked : Int) := Int.natCast_nonneg _
            go_wp2_with fail
            refine (calls_val (v' := .int .i64 (q : Int)) (flying_in S.out) (by rw [hq.out])).mono ?_; rintro e w' ⟨rfl, rfl⟩
            go_wp2_with fail
            refine (calls_val (v' := .int .i64 (p : Int)) (acked_in S.out) (by rw [hp.out])).mono ?_; rintro e w' ⟨rfl, rfl⟩
            go_wp2_with fail
            refine (calls_val (v' := .int .i64 (p : Int)) (acked_in S.out) (by rw [hp.out])).mono ?_; rintro e w' ⟨rfl, rfl⟩
            go_wp2_with fail
            refine (calls_val (v' := .int .i64 (q : Int)) (flying_in S.out) (by rw [hq.out])).mono ?_; rintro e w' ⟨rfl, rfl⟩
            go_wp2_with fail
            have hid := idle_in S.out sok.out
            cases hI : ((ackS s (a.seq)).fl.isEmpty && (ackS s (a.seq)).wt.isEmpty) with
            | false =>
              rw [hI] at hid
              have hid := Lib.hid hid
              clear hI
              refine (hid.out).mono ?_; rintro e w9 ⟨rfl, S9⟩
              have S9 := Lib.hid S9
              go_wp2
              go_roundg (gk - 1)
              case measure => omega
              case rel => exact ⟨j + 1, m, (ackS s (a.seq)), F', by omega, by omega, by go_num, by go_num, hla, sok, hto, S9⟩
            | true =>
              rw [hI] at hid
              have hid := Lib.hid hid
              have hfe : (ackS s (a.seq)).fl = [] := by
                rw [Bool.and_eq_true, List.isEmpty_iff] at hI; exact hI.1
              have hq0 : q = 0 := by rw [← hq.out, hfe]; rfl
              clear hI hfe
              subst hq0
              refine (hid.out).mono ?_; rintro e w9 ⟨rfl, S9⟩
              have S9 := Lib.hid S9
              go_wp2_with fail
              refine (calls_val (v' := .int .i64 0) (flying_in S9.out) (by rw [hq.out]; rfl)).mono ?_; rintro e w' ⟨rfl, rfl⟩
              go_wp2
              go_roundg (gk - 1)
              case measure => omega
              case rel => exact ⟨j + 1, m, (ackS s (a.seq)), F', by omega, by omega, by go_num, by go_num, hla, sok, hto, S9⟩
          · have haf := ackS_facts s ((s.acked : Int) + a.seq)
            have sok : Hid (ackS s ((s.acked : Int) + a.seq)).Ok := haf.2.2.2 hso.out
            have hge : Hid (s.acked ≤ (ackS s ((s.acked : Int) + a.seq)).acked) := haf.1
            have hla : Hid (m = (ackS s ((s.acked : Int) + a.seq)).last) := by rw [Hid, haf.2.1]; exact hm.out
            have hto : Hid ((ackS s ((s.acked : Int) + a.seq)).tot ≤ 400 * (j + 1)) := by rw [Hid, tot_last, haf.2.1, haf.2.2.1]; exact htm.out
            have y1 : IntKind.i64.wrap ((s.acked : Int) + a.seq) = (s.acked : Int) + a.seq := IntWalk.i64_in _ (by omega)
            clear haf
            go_wp2_with fail
            refine (ack_in HSa.out hso.out ((s.acked : Int) + a.seq) (by omega) (by omega)).mono ?_; rintro e w5 ⟨rfl, F', S⟩
            have S := Lib.hid S
            clear k0 k1 k2 y1
            obtain ⟨p, hp⟩ : ∃ p : Nat, Hid ((ackS s ((s.acked : Int) + a.seq)).acked = p) := ⟨_, rfl⟩
            obtain ⟨q, hq⟩ : ∃ q : Nat, Hid ((ackS s ((s.acked : Int) + a.seq)).fl.length = q) := ⟨_, rfl⟩
            have t1 : (q : Int) ≤ 4 := by have := sok.out.fl; have := hq.out; omega
            have t2 : (s.acked : Int) ≤ (p : Int) := by have := hp.out; have := hge.out; omega
            have t3 : IntKind.i64.wrap ((p : Int) + (q : Int)) = (m : Int) := by
              have := hla.out
              have := hp.out
              have := hq.out
              have := sok.out.all
              simp only [St.last] at *
              rw [IntWalk.i64_in _ (by omega)]
              omega
            have t4 : (0 : Int) ≤ (s.acked : Int) := Int.natCast_nonneg _
            go_wp2_with fail
            refine (calls_val (v' := .int .i64 (q : Int)) (flying_in S.out) (by rw [hq.out])).mono ?_; rintro e w' ⟨rfl, rfl⟩
            go_wp2_with fail
            refine (calls_val (v' := .int .i64 (p : Int)) (acked_in S.out) (by rw [hp.out])).mono ?_; rintro e w' ⟨rfl, rfl⟩
            go_wp2_with fail
            refine (calls_val (v' := .int .i64 (p : Int)) (acked_in S.out) (by rw [hp.out])).mono ?_; rintro e w' ⟨rfl, rfl⟩
            go_wp2_with fail
            refine (calls_val (v' := .int .i64 (q : Int)) (flying_in S.out) (by rw [hq.out])).mono ?_; rintro e w' ⟨rfl, rfl⟩
            go_wp2_with fail
            have hid := idle_in S.out sok.out
            cases hI : ((ackS s ((s.acked : Int) + a.seq)).fl.isEmpty && (ackS s ((s.acked : Int) + a.seq)).wt.isEmpty) with
            | false =>
              rw [hI] at hid
              have hid := Lib.hid hid
              clear hI
              refine (hid.out).mono ?_; rintro e w9 ⟨rfl, S9⟩
              have S9 := Lib.hid S9
              go_wp2
              go_roundg (gk - 1)
              case measure => omega
              case rel => exact ⟨j + 1, m, (ackS s ((s.acked : Int) + a.seq)), F', by omega, by omega, by go_num, by go_num, hla, sok, hto, S9⟩
            | true =>
              rw [hI] at hid
              have hid := Lib.hid hid
              have hfe : (ackS s ((s.acked : Int) + a.seq)).fl = [] := by
                rw [Bool.and_eq_true, List.isEmpty_iff] at hI; exact hI.1
              have hq0 : q = 0 := by rw [← hq.out, hfe]; rfl
              clear hI hfe
              subst hq0
              refine (hid.out).mono ?_; rintro e w9 ⟨rfl, S9⟩
              have S9 := Lib.hid S9
              go_wp2_with fail
              refine (calls_val (v' := .int .i64 0) (flying_in S9.out) (by rw [hq.out]; rfl)).mono ?_; rintro e w' ⟨rfl, rfl⟩
              go_wp2
              go_roundg (gk - 1)
              case measure => omega
              case rel => exact ⟨j + 1, m, (ackS s ((s.acked : Int) + a.seq)), F', by omega, by omega, by go_num, by go_num, hla, sok, hto, S9⟩
          · have htf := tickS_facts s
            have sok : Hid (tickS s).Ok := htf.2.2.2 hso.out
            have hge : Hid (s.acked ≤ (tickS s).acked) := by rw [Hid, htf.1]; omega
            have hla : Hid (m = (tickS s).last) := by rw [Hid, hm.out]; simp only [St.last, htf.1, htf.2.1]
            have hto : Hid ((tickS s).tot ≤ 400 * (j + 1)) := by rw [Hid]; have := htm.out; simp only [St.tot, htf.1, htf.2.1, htf.2.2.1] at this ⊢; exact this
            have hta : Hid ((tickS s).acked = s.acked) := htf.1
            clear htf
            go_wp2_with fail
            refine (tick_in HSa.out hso.out).mono ?_; rintro e w5 ⟨A6, n6, c6, F', R6, ps6, rfl, O6⟩
            have h6 : Hid (n6 = (tickO s).length) := O6.len
            have O6 := Lib.hid O6
            have S : Hid (SIn w w5 g F' (tickS s)) := O6.out.sin
            clear k0 k1 k2
            by_cases hn6 : n6 = 0
            · subst hn6
              obtain ⟨p, hp⟩ : ∃ p : Nat, Hid ((tickS s).acked = p) := ⟨_, rfl⟩
              obtain ⟨q, hq⟩ : ∃ q : Nat, Hid ((tickS s).fl.length = q) := ⟨_, rfl⟩
              have t1 : (q : Int) ≤ 4 := by have := sok.out.fl; have := hq.out; omega
              have t2 : (s.acked : Int) ≤ (p : Int) := by have := hp.out; have := hge.out; omega
              have t3 : IntKind.i64.wrap ((p : Int) + (q : Int)) = (m : Int) := by
                have := hla.out
                have := hp.out
                have := hq.out
                have := sok.out.all
                simp only [St.last] at *
                rw [IntWalk.i64_in _ (by omega)]
                omega
              have t4 : (0 : Int) ≤ (s.acked : Int) := Int.natCast_nonneg _
              go_wp2_with fail
              refine (calls_val (v' := .int .i64 (q : Int)) (flying_in S.out) (by rw [hq.out])).mono ?_; rintro e w' ⟨rfl, rfl⟩
              go_wp2_with fail
              refine (calls_val (v' := .int .i64 (p : Int)) (acked_in S.out) (by rw [hp.out])).mono ?_; rintro e w' ⟨rfl, rfl⟩
              go_wp2_with fail
              refine (calls_val (v' := .int .i64 (p : Int)) (acked_in S.out) (by rw [hp.out])).mono ?_; rintro e w' ⟨rfl, rfl⟩
              go_wp2_with fail
              refine (calls_val (v' := .int .i64 (q : Int)) (flying_in S.out) (by rw [hq.out])).mono ?_; rintro e w' ⟨rfl, rfl⟩
              go_wp2_with fail
              have hid := idle_in S.out sok.out
              cases hI : ((tickS s).fl.isEmpty && (tickS s).wt.isEmpty) with
              | false =>
                rw [hI] at hid
                have hid := Lib.hid hid
                clear hI
                refine (hid.out).mono ?_; rintro e w9 ⟨rfl, S9⟩
                have S9 := Lib.hid S9
                go_wp2
                go_roundg (gk - 1)
                case measure => omega
                case rel => exact ⟨j + 1, m, (tickS s), F', by omega, by omega, by go_num, by go_num, hla, sok, hto, S9⟩
              | true =>
                rw [hI] at hid
                have hid := Lib.hid hid
                have hfe : (tickS s).fl = [] := by
                  rw [Bool.and_eq_true, List.isEmpty_iff] at hI; exact hI.1
                have hq0 : q = 0 := by rw [← hq.out, hfe]; rfl
                clear hI hfe
                subst hq0
                refine (hid.out).mono ?_; rintro e w9 ⟨rfl, S9⟩
                have S9 := Lib.hid S9
                go_wp2_with fail
                refine (calls_val (v' := .int .i64 0) (flying_in S9.out) (by rw [hq.out]; rfl)).mono ?_; rintro e w' ⟨rfl, rfl⟩
                go_wp2
                go_roundg (gk - 1)
                case measure => omega
                case rel => exact ⟨j + 1, m, (tickS s), F', by omega, by omega, by go_num, by go_num, hla, sok, hto, S9⟩
            · have hto2 : Hid (tickO s = numd s.acked s.fl) := by
                rcases tickO_or s with h | h
                · exfalso; apply hn6; rw [h6.out, h]; rfl
                · exact h
              have g1 : (0 : Int) < (n6 : Int) := by omega
              have x1 : IntKind.i64.wrap ((s.acked : Int) + 1) = (s.acked : Int) + 1 := IntWalk.i64_in _ (by omega)
              clear hn6
              go_wp2_with fail
              refine (calls_val (v' := .int .i64 (s.acked : Int)) (acked_in S.out) (by rw [hta.out])).mono ?_; rintro e w' ⟨rfl, rfl⟩
              go_wp2_with fail
              refine (calls_val (v' := .bool true) (numbers_in O6.out (by rw [hto2.out, numd_len]; have := hso.out.fl; omega) _ _ (by omega) (by omega) (by omega) (by omega)) (by
                have hnn := numB_numd s.fl s.acked
                have e0 : (s.acked : Int) + s.fl.length = (m : Int) := by have := hm.out; simp only [St.last] at this; omega
                rw [e0] at hnn
                rw [hto2.out]
                exact congrArg Value.bool hnn)).mono ?_; rintro e w' ⟨rfl, rfl⟩
              obtain ⟨p, hp⟩ : ∃ p : Nat, Hid ((tickS s).acked = p) := ⟨_, rfl⟩
              obtain ⟨q, hq⟩ : ∃ q : Nat, Hid ((tickS s).fl.length = q) := ⟨_, rfl⟩
              have t1 : (q : Int) ≤ 4 := by have := sok.out.fl; have := hq.out; omega
              have t2 : (s.acked : Int) ≤ (p : Int) := by have := hp.out; have := hge.out; omega
              have t3 : IntKind.i64.wrap ((p : Int) + (q : Int)) = (m : Int) := by
                have := hla.out
                have := hp.out
                have := hq.out
                have := sok.out.all
                simp only [St.last] at *
                rw [IntWalk.i64_in _ (by omega)]
                omega
              have t4 : (0 : Int) ≤ (s.acked : Int) := Int.natCast_nonneg _
              go_wp2_with fail
              refine (calls_val (v' := .int .i64 (q : Int)) (flying_in S.out) (by rw [hq.out])).mono ?_; rintro e w' ⟨rfl, rfl⟩
              go_wp2_with fail
              refine (calls_val (v' := .int .i64 (p : Int)) (acked_in S.out) (by rw [hp.out])).mono ?_; rintro e w' ⟨rfl, rfl⟩
              go_wp2_with fail
              refine (calls_val (v' := .int .i64 (p : Int)) (acked_in S.out) (by rw [hp.out])).mono ?_; rintro e w' ⟨rfl, rfl⟩
              go_wp2_with fail
              refine (calls_val (v' := .int .i64 (q : Int)) (flying_in S.out) (by rw [hq.out])).mono ?_; rintro e w' ⟨rfl, rfl⟩
              go_wp2_with fail
              have hid := idle_in S.out sok.out
              cases hI : ((tickS s).fl.isEmpty && (tickS s).wt.isEmpty) with
              | false =>
                rw [hI] at hid
                have hid := Lib.hid hid
                clear hI
                refine (hid.out).mono ?_; rintro e w9 ⟨rfl, S9⟩
                have S9 := Lib.hid S9
                go_wp2
                go_roundg (gk - 1)
                case measure => omega
                case rel => exact ⟨j + 1, m, (tickS s), F', by omega, by omega, by go_num, by go_num, hla, sok, hto, S9⟩
              | true =>
                rw [hI] at hid
                have hid := Lib.hid hid
                have hfe : (tickS s).fl = [] := by
                  rw [Bool.and_eq_true, List.isEmpty_iff] at hI; exact hI.1
                have hq0 : q = 0 := by rw [← hq.out, hfe]; rfl
                clear hI hfe
                subst hq0
                refine (hid.out).mono ?_; rintro e w9 ⟨rfl, S9⟩
                have S9 := Lib.hid S9
                go_wp2_with fail
                refine (calls_val (v' := .int .i64 0) (flying_in S9.out) (by rw [hq.out]; rfl)).mono ?_; rintro e w' ⟨rfl, rfl⟩
                go_wp2
                go_roundg (gk - 1)
                case measure => omega
                case rel => exact ⟨j + 1, m, (tickS s), F', by omega, by omega, by go_num, by go_num, hla, sok, hto, S9⟩
          · have htf := tickS_facts s
            have sok : Hid (tickS s).Ok := htf.2.2.2 hso.out
            have hge : Hid (s.acked ≤ (tickS s).acked) := by rw [Hid, htf.1]; omega
            have hla : Hid (m = (tickS s).last) := by rw [Hid, hm.out]; simp only [St.last, htf.1, htf.2.1]
            have hto : Hid ((tickS s).tot ≤ 400 * (j + 1)) := by rw [Hid]; have := htm.out; simp only [St.tot, htf.1, htf.2.1, htf.2.2.1] at this ⊢; exact this
            have hta : Hid ((tickS s).acked = s.acked) := htf.1
            clear htf
            go_wp2_with fail
            refine (tick_in HSa.out hso.out).mono ?_; rintro e w5 ⟨A6, n6, c6, F', R6, ps6, rfl, O6⟩
            have h6 : Hid (n6 = (tickO s).length) := O6.len
            have O6 := Lib.hid O6
            have S : Hid (SIn w w5 g F' (tickS s)) := O6.out.sin
            clear k0 k1 k2
            by_cases hn6 : n6 = 0
            · subst hn6
              obtain ⟨p, hp⟩ : ∃ p : Nat, Hid ((tickS s).acked = p) := ⟨_, rfl⟩
              obtain ⟨q, hq⟩ : ∃ q : Nat, Hid ((tickS s).fl.length = q) := ⟨_, rfl⟩
              have t1 : (q : Int) ≤ 4 := by have := sok.out.fl; have := hq.out; omega
              have t2 : (s.acked : Int) ≤ (p : Int) := by have := hp.out; have := hge.out; omega
              have t3 : IntKind.i64.wrap ((p : Int) + (q : Int)) = (m : Int) := by
                have := hla.out
                have := hp.out
                have := hq.out
                have := sok.out.all
                simp only [St.last] at *
                rw [IntWalk.i64_in _ (by omega)]
                omega
              have t4 : (0 : Int) ≤ (s.acked : Int) := Int.natCast_nonneg _
              go_wp2_with fail
              refine (calls_val (v' := .int .i64 (q : Int)) (flying_in S.out) (by rw [hq.out])).mono ?_; rintro e w' ⟨rfl, rfl⟩
              go_wp2_with fail
              refine (calls_val (v' := .int .i64 (p : Int)) (acked_in S.out) (by rw [hp.out])).mono ?_; rintro e w' ⟨rfl, rfl⟩
              go_wp2_with fail
              refine (calls_val (v' := .int .i64 (p : Int)) (acked_in S.out) (by rw [hp.out])).mono ?_; rintro e w' ⟨rfl, rfl⟩
              go_wp2_with fail
              refine (calls_val (v' := .int .i64 (q : Int)) (flying_in S.out) (by rw [hq.out])).mono ?_; rintro e w' ⟨rfl, rfl⟩
              go_wp2_with fail
              have hid := idle_in S.out sok.out
              cases hI : ((tickS s).fl.isEmpty && (tickS s).wt.isEmpty) with
              | false =>
                rw [hI] at hid
                have hid := Lib.hid hid
                clear hI
                refine (hid.out).mono ?_; rintro e w9 ⟨rfl, S9⟩
                have S9 := Lib.hid S9
                go_wp2
                go_roundg (gk - 1)
                case measure => omega
                case rel => exact ⟨j + 1, m, (tickS s), F', by omega, by omega, by go_num, by go_num, hla, sok, hto, S9⟩
              | true =>
                rw [hI] at hid
                have hid := Lib.hid hid
                have hfe : (tickS s).fl = [] := by
                  rw [Bool.and_eq_true, List.isEmpty_iff] at hI; exact hI.1
                have hq0 : q = 0 := by rw [← hq.out, hfe]; rfl
                clear hI hfe
                subst hq0
                refine (hid.out).mono ?_; rintro e w9 ⟨rfl, S9⟩
                have S9 := Lib.hid S9
                go_wp2_with fail
                refine (calls_val (v' := .int .i64 0) (flying_in S9.out) (by rw [hq.out]; rfl)).mono ?_; rintro e w' ⟨rfl, rfl⟩
                go_wp2
                go_roundg (gk - 1)
                case measure => omega
                case rel => exact ⟨j + 1, m, (tickS s), F', by omega, by omega, by go_num, by go_num, hla, sok, hto, S9⟩
            · have hto2 : Hid (tickO s = numd s.acked s.fl) := by
                rcases tickO_or s with h | h
                · exfalso; apply hn6; rw [h6.out, h]; rfl
                · exact h
              have g1 : (0 : Int) < (n6 : Int) := by omega
              have x1 : IntKind.i64.wrap ((s.acked : Int) + 1) = (s.acked : Int) + 1 := IntWalk.i64_in _ (by omega)
              clear hn6
              go_wp2_with fail
              refine (calls_val (v' := .int .i64 (s.acked : Int)) (acked_in S.out) (by rw [hta.out])).mono ?_; rintro e w' ⟨rfl, rfl⟩
              go_wp2_with fail
              refine (calls_val (v' := .bool true) (numbers_in O6.out (by rw [hto2.out, numd_len]; have := hso.out.fl; omega) _ _ (by omega) (by omega) (by omega) (by omega)) (by
                have hnn := numB_numd s.fl s.acked
                have e0 : (s.acked : Int) + s.fl.length = (m : Int) := by have := hm.out; simp only [St.last] at this; omega
                rw [e0] at hnn
                rw [hto2.out]
                exact congrArg Value.bool hnn)).mono ?_; rintro e w' ⟨rfl, rfl⟩
              obtain ⟨p, hp⟩ : ∃ p : Nat, Hid ((tickS s).acked = p) := ⟨_, rfl⟩
              obtain ⟨q, hq⟩ : ∃ q : Nat, Hid ((tickS s).fl.length = q) := ⟨_, rfl⟩
              have t1 : (q : Int) ≤ 4 := by have := sok.out.fl; have := hq.out; omega
              have t2 : (s.acked : Int) ≤ (p : Int) := by have := hp.out; have := hge.out; omega
              have t3 : IntKind.i64.wrap ((p : Int) + (q : Int)) = (m : Int) := by
                have := hla.out
                have := hp.out
                have := hq.out
                have := sok.out.all
                simp only [St.last] at *
                rw [IntWalk.i64_in _ (by omega)]
                omega
              have t4 : (0 : Int) ≤ (s.acked : Int) := Int.natCast_nonneg _
              go_wp2_with fail
              refine (calls_val (v' := .int .i64 (q : Int)) (flying_in S.out) (by rw [hq.out])).mono ?_; rintro e w' ⟨rfl, rfl⟩
              go_wp2_with fail
              refine (calls_val (v' := .int .i64 (p : Int)) (acked_in S.out) (by rw [hp.out])).mono ?_; rintro e w' ⟨rfl, rfl⟩
              go_wp2_with fail
              refine (calls_val (v' := .int .i64 (p : Int)) (acked_in S.out) (by rw [hp.out])).mono ?_; rintro e w' ⟨rfl, rfl⟩
              go_wp2_with fail
              refine (calls_val (v' := .int .i64 (q : Int)) (flying_in S.out) (by rw [hq.out])).mono ?_; rintro e w' ⟨rfl, rfl⟩
              go_wp2_with fail
              have hid := idle_in S.out sok.out
              cases hI : ((tickS s).fl.isEmpty && (tickS s).wt.isEmpty) with
              | false =>
                rw [hI] at hid
                have hid := Lib.hid hid
                clear hI
                refine (hid.out).mono ?_; rintro e w9 ⟨rfl, S9⟩
                have S9 := Lib.hid S9
                go_wp2
                go_roundg (gk - 1)
                case measure => omega
                case rel => exact ⟨j + 1, m, (tickS s), F', by omega, by omega, by go_num, by go_num, hla, sok, hto, S9⟩
              | true =>
                rw [hI] at hid
                have hid := Lib.hid hid
                have hfe : (tickS s).fl = [] := by
                  rw [Bool.and_eq_true, List.isEmpty_iff] at hI; exact hI.1
                have hq0 : q = 0 := by rw [← hq.out, hfe]; rfl
                clear hI hfe
                subst hq0
                refine (hid.out).mono ?_; rintro e w9 ⟨rfl, S9⟩
                have S9 := Lib.hid S9
                go_wp2_with fail
                refine (calls_val (v' := .int .i64 0) (flying_in S9.out) (by rw [hq.out]; rfl)).mono ?_; rintro e w' ⟨rfl, rfl⟩
                go_wp2
                go_roundg (gk - 1)
                case measure => omega
                case rel => exact ⟨j + 1, m, (tickS s), F', by omega, by omega, by go_num, by go_num, hla, sok, hto, S9⟩
          · have htf := tickS_facts s
            have sok : Hid (tickS s).Ok := htf.2.2.2 hso.out
            have hge : Hid (s.acked ≤ (tickS s).acked) := by rw [Hid, htf.1]; omega
            have hla : Hid (m = (tickS s).last) := by rw [Hid, hm.out]; simp only [St.last, htf.1, htf.2.1]
            have hto : Hid ((tickS s).tot ≤ 400 * (j + 1)) := by rw [Hid]; have := htm.out; simp only [St.tot, htf.1, htf.2.1, htf.2.2.1] at this ⊢; exact this
            have hta : Hid ((tickS s).acked = s.acked) := htf.1
            clear htf
            go_wp2_with fail
            refine (tick_in HSa.out hso.out).mono ?_; rintro e w5 ⟨A6, n6, c6, F', R6, ps6, rfl, O6⟩
            have h6 : Hid (n6 = (tickO s).length) := O6.len
            have O6 := Lib.hid O6
            have S : Hid (SIn w w5 g F' (tickS s)) := O6.out.sin
            clear k0 k1 k2
            by_cases hn6 : n6 = 0
            · subst hn6
              obtain ⟨p, hp⟩ : ∃ p : Nat, Hid ((tickS s).acked = p) := ⟨_, rfl⟩
              obtain ⟨q, hq⟩ : ∃ q : Nat, Hid ((tickS s).fl.length = q) := ⟨_, rfl⟩
              have t1 : (q : Int) ≤ 4 := by have := sok.out.fl; have := hq.out; omega
              have t2 : (s.acked : Int) ≤ (p : Int) := by have := hp.out; have := hge.out; omega
              have t3 : IntKind.i64.wrap ((p : Int) + (q : Int)) = (m : Int) := by
                have := hla.out
                have := hp.out
                have := hq.out
                have := sok.out.all
                simp only [St.last] at *
                rw [IntWalk.i64_in _ (by omega)]
                omega
              have t4 : (0 : Int) ≤ (s.acked : Int) := Int.natCast_nonneg _
              go_wp2_with fail
              refine (calls_val (v' := .int .i64 (q : Int)) (flying_in S.out) (by rw [hq.out])).mono ?_; rintro e w' ⟨rfl, rfl⟩
              go_wp2_with fail
              refine (calls_val (v' := .int .i64 (p : Int)) (acked_in S.out) (by rw [hp.out])).mono ?_; rintro e w' ⟨rfl, rfl⟩
              go_wp2_with fail
              refine (calls_val (v' := .int .i64 (p : Int)) (acked_in S.out) (by rw [hp.out])).mono ?_; rintro e w' ⟨rfl, rfl⟩
              go_wp2_with fail
              refine (calls_val (v' := .int .i64 (q : Int)) (flying_in S.out) (by rw [hq.out])).mono ?_; rintro e w' ⟨rfl, rfl⟩
              go_wp2_with fail
              have hid := idle_in S.out sok.out
              cases hI : ((tickS s).fl.isEmpty && (tickS s).wt.isEmpty) with
              | false =>
                rw [hI] at hid
                have hid := Lib.hid hid
                clear hI
                refine (hid.out).mono ?_; rintro e w9 ⟨rfl, S9⟩
                have S9 := Lib.hid S9
                go_wp2
                go_roundg (gk - 1)
                case measure => omega
                case rel => exact ⟨j + 1, m, (tickS s), F', by omega, by omega, by go_num, by go_num, hla, sok, hto, S9⟩
              | true =>
                rw [hI] at hid
                have hid := Lib.hid hid
                have hfe : (tickS s).fl = [] := by
                  rw [Bool.and_eq_true, List.isEmpty_iff] at hI; exact hI.1
                have hq0 : q = 0 := by rw [← hq.out, hfe]; rfl
                clear hI hfe
                subst hq0
                refine (hid.out).mono ?_; rintro e w9 ⟨rfl, S9⟩
                have S9 := Lib.hid S9
                go_wp2_with fail
                refine (calls_val (v' := .int .i64 0) (flying_in S9.out) (by rw [hq.out]; rfl)).mono ?_; rintro e w' ⟨rfl, rfl⟩
                go_wp2
                go_roundg (gk - 1)
                case measure => omega
                case rel => exact ⟨j + 1, m, (tickS s), F', by omega, by omega, by go_num, by go_num, hla, sok, hto, S9⟩
            · have hto2 : Hid (tickO s = numd s.acked s.fl) := by
                rcases tickO_or s with h | h
                · exfalso; apply hn6; rw [h6.out, h]; rfl
                · exact h
              have g1 : (0 : Int) < (n6 : Int) := by omega
              have x1 : IntKind.i64.wrap ((s.acked : Int) + 1) = (s.acked : Int) + 1 := IntWalk.i64_in _ (by omega)
              clear hn6
              go_wp2_with fail
              refine (calls_val (v' := .int .i64 (s.acked : Int)) (acked_in S.out) (by rw [hta.out])).mono ?_; rintro e w' ⟨rfl, rfl⟩
              go_wp2_with fail
              refine (calls_val (v' := .bool true) (numbers_in O6.out (by rw [hto2.out, numd_len]; have := hso.out.fl; omega) _ _ (by omega) (by omega) (by omega) (by omega)) (by
                have hnn := numB_numd s.fl s.acked
                have e0 : (s.acked : Int) + s.fl.length = (m : Int) := by have := hm.out; simp only [St.last] at this; omega
                rw [e0] at hnn
                rw [hto2.out]
                exact congrArg Value.bool hnn)).mono ?_; rintro e w' ⟨rfl, rfl⟩
              obtain ⟨p, hp⟩ : ∃ p : Nat, Hid ((tickS s).acked = p) := ⟨_, rfl⟩
              obtain ⟨q, hq⟩ : ∃ q : Nat, Hid ((tickS s).fl.length = q) := ⟨_, rfl⟩
              have t1 : (q : Int) ≤ 4 := by have := sok.out.fl; have := hq.out; omega
              have t2 : (s.acked : Int) ≤ (p : Int) := by have := hp.out; have := hge.out; omega
              have t3 : IntKind.i64.wrap ((p : Int) + (q : Int)) = (m : Int) := by
                have := hla.out
                have := hp.out
                have := hq.out
                have := sok.out.all
                simp only [St.last] at *
                rw [IntWalk.i64_in _ (by omega)]
                omega
              have t4 : (0 : Int) ≤ (s.acked : Int) := Int.natCast_nonneg _
              go_wp2_with fail
              refine (calls_val (v' := .int .i64 (q : Int)) (flying_in S.out) (by rw [hq.out])).mono ?_; rintro e w' ⟨rfl, rfl⟩
              go_wp2_with fail
              refine (calls_val (v' := .int .i64 (p : Int)) (acked_in S.out) (by rw [hp.out])).mono ?_; rintro e w' ⟨rfl, rfl⟩
              go_wp2_with fail
              refine (calls_val (v' := .int .i64 (p : Int)) (acked_in S.out) (by rw [hp.out])).mono ?_; rintro e w' ⟨rfl, rfl⟩
              go_wp2_with fail
              refine (calls_val (v' := .int .i64 (q : Int)) (flying_in S.out) (by rw [hq.out])).mono ?_; rintro e w' ⟨rfl, rfl⟩
              go_wp2_with fail
              have hid := idle_in S.out sok.out
              cases hI : ((tickS s).fl.isEmpty && (tickS s).wt.isEmpty) with
              | false =>
                rw [hI] at hid
                have hid := Lib.hid hid
                clear hI
                refine (hid.out).mono ?_; rintro e w9 ⟨rfl, S9⟩
                have S9 := Lib.hid S9
                go_wp2
                go_roundg (gk - 1)
                case measure => omega
                case rel => exact ⟨j + 1, m, (tickS s), F', by omega, by omega, by go_num, by go_num, hla, sok, hto, S9⟩
              | true =>
                rw [hI] at hid
                have hid := Lib.hid hid
                have hfe : (tickS s).fl = [] := by
                  rw [Bool.and_eq_true, List.isEmpty_iff] at hI; exact hI.1
                have hq0 : q = 0 := by rw [← hq.out, hfe]; rfl
                clear hI hfe
                subst hq0
                refine (hid.out).mono ?_; rintro e w9 ⟨rfl, S9⟩
                have S9 := Lib.hid S9
                go_wp2_with fail
                refine (calls_val (v' := .int .i64 0) (flying_in S9.out) (by rw [hq.out]; rfl)).mono ?_; rintro e w' ⟨rfl, rfl⟩
                go_wp2
                go_roundg (gk - 1)
                case measure => omega
                case rel => exact ⟨j + 1, m, (tickS s), F', by omega, by omega, by go_num, by go_num, hla, sok, hto, S9⟩
      · have HB := Lib.hid HS.out.below
        go_wp2
        go_ret
        exact ⟨rfl, HB.out⟩
end Go.Proofs.Ytelkgjmbibljmaa.sendBou
