/- message: the document's Parse. -/
import Derived.Test.YtoneechcclndaaaRMsgD
import Derived.Outline
import Derived.BigQuiet
import Derived.Deep.QuietTactic
import Derived.Deep.RegionWith
import Derived.Deep.RegionHeld3
import Derived.Deep.DrawnRows
import Derived.Deep.LoopGhost
import Derived.Deep.DeepCutAuto
import Derived.Laws.EntriesVeiled
namespace Go.Proofs.Ytoneechcclndaaa.Msg
open Go.RowKit Go.ChangeShapes Go.WideShapes Go.ChangeAt
set_option linter.unusedVariables false
set_option linter.unusedSimpArgs false
attribute [local go_sem ↓] Go.wp_at_zero Go.wp_at_succ
open Go.Shelf Go.Proofs.Ytoneechcclndaaa.Word Go.Proofs.Ytoneechcclndaaa.Wire

theorem num24_agg (r : Wr) (W : World) : Calls Try.prog 63 #[.agg #[.int .u64 (r.v.n : Int), .int .i64 r.v.i, .bool r.v.f, .slice r.bA r.bn r.bc, .slice r.lA r.ln r.lc]] W fun e w' => e = .returned (.int .i64 (numR r.v)) ∧ Below W.heap.size W w' := number_any r W
theorem rmay24_agg (m : Mr) (b : Bool) (W : World) (hk : m.v.kind ≤ 255) (hn : m.n = m.v.bs.length) (hb : mayB m.v = b) : Calls Try.prog 34 #[.agg #[.int .u8 (m.v.kind : Int), .int .i64 m.v.client, .int .i64 m.v.epoch, .int .i64 m.v.width, .int .i64 m.v.seq, .bool m.v.last, .slice m.A m.n m.c]] W fun e w' => e = .returned (.bool b) ∧ Below W.heap.size W w' := by
  subst hb; exact rmay24_any m W hk hn
/-- how far Parse has come -/
structure RP (w wr : World) (l : List UInt8) (K : Nat) : Prop where
  no : ∀ kd, 1 ≤ kd → kd < K → tryK l kd = none
  box : wr.heap[w.heap.size]? = some (.cells #[.int .u8 0, .int .i64 0, .int .i64 0, .int .i64 0, .int .i64 0, .bool false, .slice none 0 0] 48 (0, 0))
  be : Below w.heap.size w wr
theorem RP.next {w wr w2 : World} {l : List UInt8} {K : Nat} (h : RP w wr l K) (hn : tryK l K = none) (hb : Below wr.heap.size wr w2) : RP w w2 l (K + 1) := by
  have h1 := up_no ⟨h.box, h.be⟩ hb
  refine ⟨fun kd a b => ?_, h1.out.1, h1.out.2⟩
  by_cases e : kd = K
  · rw [e]; exact hn
  · exact h.no kd a (by omega)
theorem try_er {l : List UInt8} {K : Nat} {k : Kk} (hk : kkOf K = some k) (h : (wholeP (schS k) l).2 ≠ 0) : tryK l K = none := by
  unfold tryK; rw [hk]; simp only; rw [if_neg (fun e => h e.1)]
theorem try_hd {l : List UInt8} {K : Nat} {k : Kk} {v : WV} {ys : List WV} (hk : kkOf K = some k) (h : (wholeP (schS k) l).1 = v :: ys) (hn : v.n ≠ K) : tryK l K = none := by
  unfold tryK; rw [hk]; simp only; rw [if_neg (fun e => hn (by have := e.2; rw [h] at this; exact this))]
theorem try_is {l : List UInt8} {K : Nat} {k : Kk} {v : WV} {ys : List WV} (hk : kkOf K = some k) (h : wholeP (schS k) l = (v :: ys, 0)) (hn : v.n = K) : tryK l K = if mayB (ofR K k (v :: ys)) then some (ofR K k (v :: ys)) else none := by
  unfold tryK; rw [hk]; simp only; rw [h, if_pos ⟨rfl, hn⟩]
theorem len3 {α : Type} {l : List α} (h : l.length = 3) : ∃ a b c, l = [a, b, c] := by match l, h with | [a, b, c], _ => exact ⟨a, b, c, rfl⟩
theorem len4 {α : Type} {l : List α} (h : l.length = 4) : ∃ a b c d, l = [a, b, c, d] := by match l, h with | [a, b, c, d], _ => exact ⟨a, b, c, d, rfl⟩
theorem len6 {α : Type} {l : List α} (h : l.length = 6) : ∃ a b c d e f, l = [a, b, c, d, e, f] := by match l, h with | [a, b, c, d, e, f], _ => exact ⟨a, b, c, d, e, f, rfl⟩
theorem bcellM {W w1 : World} (hb : Below W.heap.size W w1) : (∀ b o, b < W.heap.size → w1.cell? ⟨b, o, none⟩ = W.cell? ⟨b, o, none⟩) ∧ (∀ b o, b < W.heap.size → w1.frozen? ⟨b, o, none⟩ = W.frozen? ⟨b, o, none⟩) :=
  ⟨fun b o h => hb.cell (p := ⟨b, o, none⟩) h, fun b o h => hb.frozen (p := ⟨b, o, none⟩) h⟩
/-- a message stored whole into its block -/
theorem wp_store_msg {op : Oper} {a : Act} {w : World} {K : Act → World → Prop} {Q : Exit → Act → World → Prop} (x y : Operand) (ho : op.op = .store 48 x y) {g : Nat} (r : Mr) (hx : a.eval x = .pointer (some ⟨g, 0, none⟩))
    (hy : a.eval y = .agg (Mr.cells r)) (hb : Blk w g 48 #[.int .u8 0, .int .i64 0, .int .i64 0, .int .i64 0, .int .i64 0, .bool false, .slice none 0 0]) (h : ∀ w', Blk w' g 48 (Mr.cells r) → Chg (fun i => i = g) w w' → K (a.put op.dst undef) w') : op.wp Try.prog a w K Q := by
  refine wp_store_mid 48 x y ho g 0 (Mr.cells r) hx hy (fun j hj => ⟨?_, hb.free _⟩) (zM r) (one7 _ _ _ _ _ _ _ _ _) (h _ ?_ ?_)
  · rw [hb.cell]
    have hj7 : j < 7 := hj
    obtain rfl | rfl | rfl | rfl | rfl | rfl | rfl : j = 0 ∨ j = 1 ∨ j = 2 ∨ j = 3 ∨ j = 4 ∨ j = 5 ∨ j = 6 := by omega
    all_goals rfl
  · exact ((((((hb.set_ 0 _).set_ 1 _).set_ 2 _).set_ 3 _).set_ 4 _).set_ 5 _).set_ 6 _
  · exact ((((((((Chg.refl (fun i => i = g) w).setCell (p := ⟨g, 0, none⟩) (fun _ => rfl) _).setCell (p := ⟨g, 1, none⟩) (fun _ => rfl) _).setCell (p := ⟨g, 2, none⟩) (fun _ => rfl) _).setCell (p := ⟨g, 3, none⟩) (fun _ => rfl) _).setCell (p := ⟨g, 4, none⟩) (fun _ => rfl) _).setCell (p := ⟨g, 5, none⟩) (fun _ => rfl) _).setCell (p := ⟨g, 6, none⟩) (fun _ => rfl) _)
/-- what the first numbers leave -/
def MsgAt (w5 wx : World) (g : Nat) (r : Mr) : Prop := Blk wx g 48 (Mr.cells r) ∧ Below w5.heap.size w5 wx ∧ w5.heap.size ≤ g
theorem msg_at {w5 w8 w9 : World} {g : Nat} {r : Mr} (hb : Below w5.heap.size w5 w8) (hg : w5.heap.size ≤ g) (hk : Blk w9 g 48 (Mr.cells r)) (hc : Chg (fun i => i = g) w8 w9) : MsgAt w5 w9 g r :=
  ⟨hk, hb.trans (hc.below hb.size fun i hi e => by omega), hg⟩
theorem MsgAt.ext {w5 wx wy : World} {g : Nat} {r : Mr} (h : MsgAt w5 wx g r) (hb : Below wx.heap.size wx wy) : MsgAt w5 wy g r := ⟨h.1.ext hb, ext_under h.2.1 (Nat.le_refl _) hb, h.2.2⟩
theorem MsgAt.set {w5 wx : World} {g : Nat} {r r' : Mr} (h : MsgAt w5 wx g r) (i : Nat) (u : Value) (hr : (Mr.cells r).setIfInBounds i u = Mr.cells r') : MsgAt w5 (wx.setCell ⟨g, i, none⟩ u) g r' := ⟨hr ▸ h.1.set_ i u, h.2.1.setCell h.2.2 u, h.2.2⟩
theorem nil_own {W : World} {g : Nat} : OwnA W 5 1 encB (.slice none 0 0) ([] : List UInt8) ∧ ∀ k, (Value.slice none 0 0).ownBlock = some k → g < k := ⟨OwnA.nil_ _ _ _ _, fun k hk => by cases hk⟩
set_option maxHeartbeats 16000000 in
set_option maxRecDepth 100000 in
theorem rparse24_any (l : List UInt8) (A : Option Addr) (n cap : Nat) (w : World) (hl : BySl w w.heap.size A l) (hn : Hid (n = l.length)) (hc : n ≤ cap) (hm : n ≤ 1000000000) :
    Calls Try.prog 28 #[.slice A n cap] w (RetParse w (parseM l)) := by
  have HL := Lib.hid hl
  clear hl
  go_enter Try.func28, Try.ntmps28
  go_wp2
  go_loopg [4] 6 (fun gk v4 wr => ∃ K : Nat, v4 = .int .u8 (K : Int) ∧ 6 ≤ K + gk ∧ 1 ≤ K ∧ K ≤ 6 ∧ RP w wr l K)
  case atStart => exact ⟨1, rfl, by omega, by omega, by omega, fun kd a b => by omega, heap_alloc_new w _, below_1 w _⟩
  case round =>
    obtain ⟨K, rfl, hgk, hK1, hK6, hP0⟩ := hrel
    have hP := Lib.hid hP0
    clear hP0
    obtain rfl | rfl | rfl | rfl | rfl | rfl : K = 1 ∨ K = 2 ∨ K = 3 ∨ K = 4 ∨ K = 5 ∨ K = 6 := by omega
    · have hk : kkOf 1 = some (⟨true, false, false, 0, true⟩ : Kk) := rfl
      have hsc : Hid (∀ W, Calls Try.prog 61 #[.int .u8 1] W fun e w' => e = .returned (.string ⟨#[110, 110, 110, 110]⟩) ∧ W = w') := fun W => rschema_any24 1 W (by decide)
      have hwh : Hid (∀ W, Below w.heap.size w W → Calls Try.prog 62 #[.string ⟨#[110, 110, 110, 110]⟩, .slice A n cap] W (RetWhole W (wholeP (schS (⟨true, false, false, 0, true⟩ : Kk)) l))) := fun W h => rwhole_any ⟨#[110, 110, 110, 110]⟩ l A n cap W (by decide) (HL.out.ext h) hn hc (by omega)
      by_cases her : (wholeP (schS (⟨true, false, false, 0, true⟩ : Kk)) l).2 = 0
      · obtain ⟨xs, hxs⟩ : ∃ xs, wholeP (schS (⟨true, false, false, 0, true⟩ : Kk)) l = (xs, 0) := ⟨(wholeP (schS (⟨true, false, false, 0, true⟩ : Kk)) l).1, Prod.ext rfl her⟩
        have hlen := whole_len her
        rw [hxs] at hwh hlen
        have HX := Lib.hid hxs
        clear her hxs
        go_upto_region 5 with (first | (go_at_call 61; refine (hsc.out _).mono ?_; rintro e w' ⟨rfl, rfl⟩) | (go_at_call 62; refine (hwh.out _ hP.out.be).mono ?_; rintro e w5 ⟨hb5, A2, n2, c2, rs, rfl, hrs, hvo⟩; have HW5 := Lib.hid (And.intro hb5 (And.intro hrs hvo)); clear hb5 hrs hvo))
        obtain ⟨r0, r1, r2, r3, rfl⟩ := len4 (by have := congrArg List.length HW5.out.2.1; rw [List.length_map] at this; rw [this]; exact hlen)
        have hxe := HW5.out.2.1
        subst hxe
        have hn2 : n2 = _ := HW5.out.2.2.own.len
        subst hn2
        have hsl5 := HW5.out.2.2.own.sl Wr.cells_len
        obtain ⟨vb, vo, rfl, hvb, x00, x01, x02, x03, x04⟩ := Wr.at_ hsl5 (j := 0) (r := r0) rfl
        obtain ⟨vb', vo', hA', _, x10, x11, x12, x13, x14⟩ := Wr.at_ hsl5 (j := 1) (r := r1) rfl
        obtain ⟨rfl, rfl⟩ : vb = vb' ∧ vo = vo' := by injection hA' with h; injection h with h1 h2; exact ⟨h1, h2⟩
        obtain ⟨vb', vo', hA', _, x20, x21, x22, x23, x24⟩ := Wr.at_ hsl5 (j := 2) (r := r2) rfl
        obtain ⟨rfl, rfl⟩ : vb = vb' ∧ vo = vo' := by injection hA' with h; injection h with h1 h2; exact ⟨h1, h2⟩
        simp only [Nat.zero_mul, Nat.one_mul, Nat.reduceMul, Nat.add_zero, Nat.add_assoc, Nat.reduceAdd] at x00 x01 x02 x03 x04 x10 x11 x12 x13 x14 x20 x21 x22 x23 x24
        clear hA'
        by_cases hh : r0.v.n = 1
        · have f1 : ((r0.v.n : Int) != 1) = false := by rw [hh]; rfl
          have f2 : (r0.v.n != 1) = false := by rw [hh]; rfl
          have HT := Lib.hid (try_is hk HX.out hh)
          have HH := Lib.hid hh
          clear hh hk hlen hsc hwh
          go_upto_region 6 with fail
          go_cut [7] (fun s7 wx => ∃ g, s7 = .pointer (some ⟨g, 0, none⟩) ∧ Hid (MsgAt w5 wx g ⟨⟨1, numR r1.v, numR r2.v, 0, 0, false, []⟩, none, 0, 0⟩))
          case first =>
            have hS0 : Below w5.heap.size w5 w5.drew := (Below.refl _ _).drew
            refine wp_region_held_drew (S := fun w' => Below w5.heap.size w5 w') (by kernel_rfl) hS0 (fun hHeld => ?_)
            try simp only [Act.put, List.setIfInBounds_toArray, List.set_cons_zero, List.set_cons_succ]
            (refine wpAnyH_take (i := 0) (oi := { dst := some 31, op := _, type := _, pos := _, after := _, guard := _ }) (v := ?_) rfl (by kernel_rfl) (by kernel_rfl) (by kernel_rfl) (fun _ _ _ h => h) (Or.inl ⟨by kernel_rfl, (by intro W' hS'; obtain ⟨hq1, hq2⟩ := bcellM hS'; go_simp; try with_reducible rfl)⟩) (by assumption) ?_; (try simp only [Act.put, List.setIfInBounds_toArray, List.set_cons_zero, List.set_cons_succ]))
            (refine wpAnyH_take (i := 1) (oi := { dst := some 32, op := _, type := _, pos := _, after := _, guard := _ }) (v := ?_) rfl (by kernel_rfl) (by kernel_rfl) (by kernel_rfl) (fun _ _ _ h => h) (Or.inl ⟨by kernel_rfl, (by intro W' hS'; obtain ⟨hq1, hq2⟩ := bcellM hS'; go_simp; try with_reducible rfl)⟩) (by assumption) ?_; (try simp only [Act.put, List.setIfInBounds_toArray, List.set_cons_zero, List.set_cons_succ]))
            (refine wpAnyH_take (i := 2) (oi := { dst := some 33, op := _, type := _, pos := _, after := _, guard := _ }) (v := ?_) rfl (by kernel_rfl) (by kernel_rfl) (by kernel_rfl) (fun _ _ _ h => h) (Or.inl ⟨by kernel_rfl, (by intro W' hS'; obtain ⟨hq1, hq2⟩ := bcellM hS'; go_simp; try with_reducible rfl)⟩) (by assumption) ?_; (try simp only [Act.put, List.setIfInBounds_toArray, List.set_cons_zero, List.set_cons_succ]))
            (refine wpAnyH_take (i := 3) (oi := { dst := some 34, op := _, type := _, pos := _, after := _, guard := _ }) (v := ?_) rfl (by kernel_rfl) (by kernel_rfl) (by kernel_rfl) (fun _ _ _ h => h) (Or.inl ⟨by kernel_rfl, (by intro W' hS'; obtain ⟨hq1, hq2⟩ := bcellM hS'; go_simp; try with_reducible rfl)⟩) (by assumption) ?_; (try simp only [Act.put, List.setIfInBounds_toArray, List.set_cons_zero, List.set_cons_succ]))
            (refine wpAnyH_take (i := 5) (oi := { dst := some 36, op := _, type := _, pos := _, after := _, guard := _ }) (v := ?_) rfl (by kernel_rfl) (by kernel_rfl) (by kernel_rfl) (fun _ _ _ h => h) (Or.inl ⟨by kernel_rfl, (by intro W' hS'; obtain ⟨hq1, hq2⟩ := bcellM hS'; go_simp; try with_reducible rfl)⟩) (by assumption) ?_; (try simp only [Act.put, List.setIfInBounds_toArray, List.set_cons_zero, List.set_cons_succ]))
            (refine wpAnyH_take (i := 6) (oi := { dst := some 37, op := _, type := _, pos := _, after := _, guard := _ }) (v := ?_) rfl (by kernel_rfl) (by kernel_rfl) (by kernel_rfl) (fun _ _ _ h => h) (Or.inl ⟨by kernel_rfl, (by intro W' hS'; obtain ⟨hq1, hq2⟩ := bcellM hS'; go_simp; try with_reducible rfl)⟩) (by assumption) ?_; (try simp only [Act.put, List.setIfInBounds_toArray, List.set_cons_zero, List.set_cons_succ]))
            (refine wpAnyH_take (i := 7) (oi := { dst := some 38, op := _, type := _, pos := _, after := _, guard := _ }) (v := ?_) rfl (by kernel_rfl) (by kernel_rfl) (by kernel_rfl) (fun _ _ _ h => h) (Or.inl ⟨by kernel_rfl, (by intro W' hS'; obtain ⟨hq1, hq2⟩ := bcellM hS'; go_simp; try with_reducible rfl)⟩) (by assumption) ?_; (try simp only [Act.put, List.setIfInBounds_toArray, List.set_cons_zero, List.set_cons_succ]))
            refine wpAnyH_ready (rs := [4, 10]) (by kernel_rfl) (by simp) ?_
            refine AllReadyH.cons (o := { dst := some 35, op := _, type := _, pos := _, after := _, guard := _ }) rfl (fun K hK => ?_) (AllReadyH.cons (o := { dst := some 7, op := _, type := _, pos := _, after := _, guard := _ }) rfl (fun K hK => ?_) AllReadyH.nil)
            · go_simp; refine (num24_agg r1 _).mono ?_; rintro e w6 ⟨rfl, hb⟩; have hS6 := ext_under hS0 (Nat.le_refl _) hb; refine hK.out _ _ hS6 (fun hHeld => ?_); clear hK K; try simp only [Act.put, List.setIfInBounds_toArray, List.set_cons_zero, List.set_cons_succ]
              refine wpAnyH_ready (rs := [8, 10]) (by kernel_rfl) (by simp) ?_
              refine AllReadyH.cons (o := { dst := some 39, op := _, type := _, pos := _, after := _, guard := _ }) rfl (fun K hK => ?_) (AllReadyH.cons (o := { dst := some 7, op := _, type := _, pos := _, after := _, guard := _ }) rfl (fun K hK => ?_) AllReadyH.nil)
              · go_simp; refine (num24_agg r2 _).mono ?_; rintro e w7 ⟨rfl, hb⟩; have hS7 := ext_under hS6 (Nat.le_refl _) hb; refine hK.out _ _ hS7 (fun hHeld => ?_); clear hK K; try simp only [Act.put, List.setIfInBounds_toArray, List.set_cons_zero, List.set_cons_succ]
                (refine wpAnyH_take (i := 9) (oi := { dst := some 40, op := _, type := _, pos := _, after := _, guard := _ }) (v := ?_) rfl (by kernel_rfl) (by kernel_rfl) (by kernel_rfl) (fun _ _ _ h => h) (Or.inl ⟨by kernel_rfl, (by intro W' hS'; obtain ⟨hq1, hq2⟩ := bcellM hS'; go_simp; try with_reducible rfl)⟩) (by assumption) ?_; (try simp only [Act.put, List.setIfInBounds_toArray, List.set_cons_zero, List.set_cons_succ]))
                refine wpAnyH_ready (rs := [10]) (by kernel_rfl) (by simp) ?_
                refine AllReadyH.cons (o := { dst := some 7, op := _, type := _, pos := _, after := _, guard := _ }) rfl (fun K hK => ?_) AllReadyH.nil
                go_simp; refine hK.out _ _ (Below.alloc hS7 (Below.size hS7) _) (fun hHeld => ?_); clear hK K; try simp only [Act.put, List.setIfInBounds_toArray, List.set_cons_zero, List.set_cons_succ]
                have hsz := hS7.size
                refine wpAnyH_ready (rs := [11]) (by kernel_rfl) (by simp) ?_; refine AllReadyH.cons (o := { dst := none, op := _, type := _, pos := _, after := _, guard := _ }) rfl (fun K hK => ?_) AllReadyH.nil; refine Eq.mpr (if_pos (by kernel_rfl)) ?_; refine wp_store_msg (.tmp 7) (.tmp 40) rfl (⟨⟨1, numR r1.v, numR r2.v, 0, 0, false, []⟩, none, 0, 0⟩ : Mr) rfl rfl (Blk.new w7 _ _) fun w9 hk9 hc9 => ?_; have HG9 := Lib.hid (msg_at hHeld (by omega) hk9 hc9); refine hK.out _ _ HG9.out.2.1 (fun hHeld => ?_); clear hK K; try simp only [Act.put, List.setIfInBounds_toArray, List.set_cons_zero, List.set_cons_succ]; refine wpAnyH_done (by kernel_rfl) ?_ _; go_wp2_with fail; go_meet; exact ⟨_, rfl, HG9⟩
              · go_simp; refine hK.out _ _ (Below.alloc hS6 (Below.size hS6) _) (fun hHeld => ?_); clear hK K; try simp only [Act.put, List.setIfInBounds_toArray, List.set_cons_zero, List.set_cons_succ]
                refine wpAnyH_ready (rs := [8]) (by kernel_rfl) (by simp) ?_
                refine AllReadyH.cons (o := { dst := some 39, op := _, type := _, pos := _, after := _, guard := _ }) rfl (fun K hK => ?_) AllReadyH.nil
                have hA6 := hHeld
                have hsz := hS6.size
                go_simp; refine (num24_agg r2 _).mono ?_; rintro e w7 ⟨rfl, hb⟩; have hS7 := ext_under hA6 (Nat.le_refl _) hb; refine hK.out _ _ hS7 (fun hHeld => ?_); clear hK K; try simp only [Act.put, List.setIfInBounds_toArray, List.set_cons_zero, List.set_cons_succ]
                (refine wpAnyH_take (i := 9) (oi := { dst := some 40, op := _, type := _, pos := _, after := _, guard := _ }) (v := ?_) rfl (by kernel_rfl) (by kernel_rfl) (by kernel_rfl) (fun _ _ _ h => h) (Or.inl ⟨by kernel_rfl, (by intro W' hS'; obtain ⟨hq1, hq2⟩ := bcellM hS'; go_simp; try with_reducible rfl)⟩) (by assumption) ?_; (try simp only [Act.put, List.setIfInBounds_toArray, List.set_cons_zero, List.set_cons_succ]))
                refine wpAnyH_ready (rs := [11]) (by kernel_rfl) (by simp) ?_; refine AllReadyH.cons (o := { dst := none, op := _, type := _, pos := _, after := _, guard := _ }) rfl (fun K hK => ?_) AllReadyH.nil; refine Eq.mpr (if_pos (by kernel_rfl)) ?_; refine wp_store_msg (.tmp 7) (.tmp 40) rfl (⟨⟨1, numR r1.v, numR r2.v, 0, 0, false, []⟩, none, 0, 0⟩ : Mr) rfl rfl ((Blk.new w6 _ _).ext hb) fun w9 hk9 hc9 => ?_; have HG9 := Lib.hid (msg_at hS7 (by omega) hk9 hc9); refine hK.out _ _ HG9.out.2.1 (fun hHeld => ?_); clear hK K; try simp only [Act.put, List.setIfInBounds_toArray, List.set_cons_zero, List.set_cons_succ]; refine wpAnyH_done (by kernel_rfl) ?_ _; go_wp2_with fail; go_meet; exact ⟨_, rfl, HG9⟩
            · go_simp; refine hK.out _ _ (Below.alloc hS0 (Below.size hS0) _) (fun hHeld => ?_); clear hK K; try simp only [Act.put, List.setIfInBounds_toArray, List.set_cons_zero, List.set_cons_succ]
              refine wpAnyH_ready (rs := [4]) (by kernel_rfl) (by simp) ?_
              refine AllReadyH.cons (o := { dst := some 35, op := _, type := _, pos := _, after := _, guard := _ }) rfl (fun K hK => ?_) AllReadyH.nil
              have hA5 := hHeld
              go_simp; refine (num24_agg r1 _).mono ?_; rintro e w6 ⟨rfl, hb⟩; have hS6 := ext_under hA5 (Nat.le_refl _) hb; refine hK.out _ _ hS6 (fun hHeld => ?_); clear hK K; try simp only [Act.put, List.setIfInBounds_toArray, List.set_cons_zero, List.set_cons_succ]
              have hk6 := Lib.hid ((Blk.new w5.drew _ _).ext hb)
              clear hb
              refine wpAnyH_ready (rs := [8]) (by kernel_rfl) (by simp) ?_
              refine AllReadyH.cons (o := { dst := some 39, op := _, type := _, pos := _, after := _, guard := _ }) rfl (fun K hK => ?_) AllReadyH.nil
              go_simp; refine (num24_agg r2 _).mono ?_; rintro e w7 ⟨rfl, hb⟩; have hS7 := ext_under hS6 (Nat.le_refl _) hb; refine hK.out _ _ hS7 (fun hHeld => ?_); clear hK K; try simp only [Act.put, List.setIfInBounds_toArray, List.set_cons_zero, List.set_cons_succ]
              (refine wpAnyH_take (i := 9) (oi := { dst := some 40, op := _, type := _, pos := _, after := _, guard := _ }) (v := ?_) rfl (by kernel_rfl) (by kernel_rfl) (by kernel_rfl) (fun _ _ _ h => h) (Or.inl ⟨by kernel_rfl, (by intro W' hS'; obtain ⟨hq1, hq2⟩ := bcellM hS'; go_simp; try with_reducible rfl)⟩) (by assumption) ?_; (try simp only [Act.put, List.setIfInBounds_toArray, List.set_cons_zero, List.set_cons_succ]))
              refine wpAnyH_ready (rs := [11]) (by kernel_rfl) (by simp) ?_; refine AllReadyH.cons (o := { dst := none, op := _, type := _, pos := _, after := _, guard := _ }) rfl (fun K hK => ?_) AllReadyH.nil; refine Eq.mpr (if_pos (by kernel_rfl)) ?_; refine wp_store_msg (.tmp 7) (.tmp 40) rfl (⟨⟨1, numR r1.v, numR r2.v, 0, 0, false, []⟩, none, 0, 0⟩ : Mr) rfl rfl (hk6.out.ext hb) fun w9 hk9 hc9 => ?_; have HG9 := Lib.hid (msg_at hS7 (by omega) hk9 hc9); refine hK.out _ _ HG9.out.2.1 (fun hHeld => ?_); clear hK K; try simp only [Act.put, List.setIfInBounds_toArray, List.set_cons_zero, List.set_cons_succ]; refine wpAnyH_done (by kernel_rfl) ?_ _; go_wp2_with fail; go_meet; exact ⟨_, rfl, HG9⟩
          case rest =>
            obtain ⟨g, rfl, hG⟩ := hcut
            have hgw : w.heap.size < g := by have h1 := (Array.getElem?_eq_some_iff.1 hP.out.box).1; have h2 := HW5.out.1.size; have h3 := hG.out.2.2; omega
            clear x00 x01 x02 x03 x04 x10 x11 x12 x13 x14 x20 x21 x22 x23 x24 f1 f2
            obtain ⟨vb', vo', hA', _, x30, x31, x32, x33, x34⟩ := Wr.at_ hsl5 (j := 3) (r := r3) rfl; obtain ⟨rfl, rfl⟩ : vb = vb' ∧ vo = vo' := (by injection hA' with h; injection h with h1 h2; exact ⟨h1, h2⟩); simp only [Nat.reduceMul, Nat.add_assoc, Nat.reduceAdd] at x30 x31 x32 x33 x34; obtain ⟨hq1, _⟩ := bcellM hG.out.2.1; have y30 := (hq1 vb _ hvb).trans x30; have y31 := (hq1 vb _ hvb).trans x31; have y32 := (hq1 vb _ hvb).trans x32; have y33 := (hq1 vb _ hvb).trans x33; have y34 := (hq1 vb _ hvb).trans x34; clear hq1 hA'; go_upto_region 16 with (go_at_call 63; refine (num24_agg r3 _).mono ?_; rintro e w6 ⟨rfl, hb6⟩; have HG6 := Lib.hid (hG.out.ext hb6); clear hb6; have c3 := HG6.out.1.cell 3; have f3 := HG6.out.1.free 3; have c4 := HG6.out.1.cell 4; have f4 := HG6.out.1.free 4; simp only [Mr.cells, List.getElem?_toArray, List.getElem?_cons_zero, List.getElem?_cons_succ] at c3 c4); have HG8 := Lib.hid (HG6.out.set 3 (.int .i64 (numR r3.v)) (r' := ⟨⟨1, numR r1.v, numR r2.v, numR r3.v, 0, false, []⟩, none, 0, 0⟩) rfl); clear c3 f3 c4 f4 y30 y31 y32 y33 y34 x30 x31 x32 x33 x34 HG6; generalize w6.setCell ⟨g, 3, none⟩ (.int .i64 (numR r3.v)) = W8 at *; have HO8 : Hid (OwnA W8 5 1 encB (.slice none 0 0) ([] : List UInt8) ∧ ∀ k, (Value.slice none 0 0).ownBlock = some k → w.heap.size < k) := nil_own
            have k0 := HG8.out.1.cell 0
            have k1 := HG8.out.1.cell 1
            have k2 := HG8.out.1.cell 2
            have k3 := HG8.out.1.cell 3
            have k4 := HG8.out.1.cell 4
            have k5 := HG8.out.1.cell 5
            have k6 := HG8.out.1.cell 6
            simp only [Mr.cells, List.getElem?_toArray, List.getElem?_cons_zero, List.getElem?_cons_succ] at k0 k1 k2 k3 k4 k5 k6
            have HT2 : Hid (tryK l 1 = if mayB (⟨1, numR r1.v, numR r2.v, numR r3.v, 0, false, []⟩ : Ms) = true then some (⟨1, numR r1.v, numR r2.v, numR r3.v, 0, false, []⟩ : Ms) else none) := HT.out
            clear HT
            cases hmm : mayB (⟨1, numR r1.v, numR r2.v, numR r3.v, 0, false, []⟩ : Ms) with
            | false =>
              have HM := Lib.hid fun W => rmay24_agg ⟨(⟨1, numR r1.v, numR r2.v, numR r3.v, 0, false, []⟩ : Ms), none, 0, 0⟩ false W (show 1 ≤ 255 by decide) rfl hmm
              have hno : Hid (tryK l 1 = none) := by rw [Hid, HT2.out, hmm]; rfl
              clear hmm HT2
              go_wp2_with (go_at_call 34; refine (HM.out _).mono ?_; rintro e w9 ⟨rfl, hb9⟩)
              go_roundg (gk - 1)
              case measure => omega
              case rel => exact ⟨1 + 1, rfl, by omega, by omega, by omega, hP.out.next hno.out (ext_under (ext_under HW5.out.1 (Nat.le_refl _) HG8.out.2.1) (Nat.le_refl _) hb9)⟩
            | true =>
              have HM := Lib.hid fun W => rmay24_agg ⟨(⟨1, numR r1.v, numR r2.v, numR r3.v, 0, false, []⟩ : Ms), none, 0, 0⟩ true W (show 1 ≤ 255 by decide) rfl hmm
              have hpm : Hid (parseM l = ((⟨1, numR r1.v, numR r2.v, numR r3.v, 0, false, []⟩ : Ms), 0)) := try_parse (kd := 1) (by rw [HT2.out, hmm]; rfl)
              clear hmm HT2
              go_wp2_with (first | (go_at_call 34; refine (HM.out _).mono ?_; rintro e w9 ⟨rfl, hb9⟩; have HG9 := Lib.hid (HG8.out.1.ext hb9); have HB9 := up_no (up_no (up_no ⟨hP.out.box, hP.out.be⟩ HW5.out.1).out HG8.out.2.1).out hb9; have HO9 := Lib.hid (HO8.out.1.ext hb9); clear hb9 k0 k1 k2 k3 k4 k5 k6; have m0 := HG9.out.cell 0; have m1 := HG9.out.cell 1; have m2 := HG9.out.cell 2; have m3 := HG9.out.cell 3; have m4 := HG9.out.cell 4; have m5 := HG9.out.cell 5; have m6 := HG9.out.cell 6; simp only [Mr.cells, List.getElem?_toArray, List.getElem?_cons_zero, List.getElem?_cons_succ] at m0 m1 m2 m3 m4 m5 m6) | (with_reducible refine wpList_store_row rfl 48 (.tmp 2) (.tmp 75) rfl _ _ rfl rfl 48 _ HB9.out.1 (zM ⟨(⟨1, numR r1.v, numR r2.v, numR r3.v, 0, false, []⟩ : Ms), none, 0, 0⟩) rfl (one7 _ _ _ _ _ _ _ _ _) ?_))
              rw [hpm.out]
              exact bodyPost_ret (v := .tuple #[(⟨(⟨1, numR r1.v, numR r2.v, numR r3.v, 0, false, []⟩ : Ms), none, 0, 0⟩ : Mr).agg, .int .i64 0]) (results_cell_tmp Try.results28 rfl rfl (mres _ _ ⟨(⟨1, numR r1.v, numR r2.v, numR r3.v, 0, false, []⟩ : Ms), none, 0, 0⟩ (setRow_heap _ _ _ _ _ _ HB9.out.1))) rfl ⟨below_setRow HB9.out.2 (Nat.le_refl _) _, ⟨(⟨1, numR r1.v, numR r2.v, numR r3.v, 0, false, []⟩ : Ms), none, 0, 0⟩, rfl, rfl, HO9.out.chg (chg_setRow _ _ _) (fun k hk => by have := HO8.out.2 k hk; omega), fun k hk => by have := HO8.out.2 k hk; omega⟩
        · have f1 : ((r0.v.n : Int) != 1) = true := by simp; omega
          have f2 : (r0.v.n != 1) = true := by simpa using hh
          have hno := Lib.hid (try_hd hk (by rw [HX.out]; rfl) hh)
          clear hh hk hlen hsc hwh
          go_wp2
          go_roundg (gk - 1)
          case measure => omega
          case rel => exact ⟨1 + 1, rfl, by omega, by omega, by omega, hP.out.next hno.out HW5.out.1⟩
      · have hno := Lib.hid (try_er hk her)
        have her2 : ((wholeP (schS (⟨true, false, false, 0, true⟩ : Kk)) l).2 != 0) = true := by simpa using her
        generalize wholeP (schS (⟨true, false, false, 0, true⟩ : Kk)) l = x at *
        obtain ⟨xs, er⟩ := x
        simp only at her2
        clear her hk
        go_wp2_with (first | (go_at_call 61; refine (hsc.out _).mono ?_; rintro e w' ⟨rfl, rfl⟩) | (go_at_call 62; refine (hwh.out _ hP.out.be).mono ?_; rintro e w5 ⟨hb5, A2, n2, c2, rs, rfl, hrs, hvo⟩; have HW5 := Lib.hid (And.intro hb5 (And.intro hrs hvo)); clear hb5 hrs hvo))
        go_roundg (gk - 1)
        case measure => omega
        case rel => exact ⟨1 + 1, rfl, by omega, by omega, by omega, hP.out.next hno.out HW5.out.1⟩
    · have hk : kkOf 2 = some (⟨false, false, false, 0, true⟩ : Kk) := rfl
      have hsc : Hid (∀ W, Calls Try.prog 61 #[.int .u8 2] W fun e w' => e = .returned (.string ⟨#[110, 110, 110]⟩) ∧ W = w') := fun W => rschema_any24 2 W (by decide)
      have hwh : Hid (∀ W, Below w.heap.size w W → Calls Try.prog 62 #[.string ⟨#[110, 110, 110]⟩, .slice A n cap] W (RetWhole W (wholeP (schS (⟨false, false, false, 0, true⟩ : Kk)) l))) := fun W h => rwhole_any ⟨#[110, 110, 110]⟩ l A n cap W (by decide) (HL.out.ext h) hn hc (by omega)
      by_cases her : (wholeP (schS (⟨false, false, false, 0, true⟩ : Kk)) l).2 = 0
      · obtain ⟨xs, hxs⟩ : ∃ xs, wholeP (schS (⟨false, false, false, 0, true⟩ : Kk)) l = (xs, 0) := ⟨(wholeP (schS (⟨false, false, false, 0, true⟩ : Kk)) l).1, Prod.ext rfl her⟩
        have hlen := whole_len her
        rw [hxs] at hwh hlen
        have HX := Lib.hid hxs
        clear her hxs
        go_upto_region 5 with (first | (go_at_call 61; refine (hsc.out _).mono ?_; rintro e w' ⟨rfl, rfl⟩) | (go_at_call 62; refine (hwh.out _ hP.out.be).mono ?_; rintro e w5 ⟨hb5, A2, n2, c2, rs, rfl, hrs, hvo⟩; have HW5 := Lib.hid (And.intro hb5 (And.intro hrs hvo)); clear hb5 hrs hvo))
        obtain ⟨r0, r1, r2, rfl⟩ := len3 (by have := congrArg List.length HW5.out.2.1; rw [List.length_map] at this; rw [this]; exact hlen)
        have hxe := HW5.out.2.1
        subst hxe
        have hn2 : n2 = _ := HW5.out.2.2.own.len
        subst hn2
        have hsl5 := HW5.out.2.2.own.sl Wr.cells_len
        obtain ⟨vb, vo, rfl, hvb, x00, x01, x02, x03, x04⟩ := Wr.at_ hsl5 (j := 0) (r := r0) rfl
        obtain ⟨vb', vo', hA', _, x10, x11, x12, x13, x14⟩ := Wr.at_ hsl5 (j := 1) (r := r1) rfl
        obtain ⟨rfl, rfl⟩ : vb = vb' ∧ vo = vo' := by injection hA' with h; injection h with h1 h2; exact ⟨h1, h2⟩
        obtain ⟨vb', vo', hA', _, x20, x21, x22, x23, x24⟩ := Wr.at_ hsl5 (j := 2) (r := r2) rfl
        obtain ⟨rfl, rfl⟩ : vb = vb' ∧ vo = vo' := by injection hA' with h; injection h with h1 h2; exact ⟨h1, h2⟩
        simp only [Nat.zero_mul, Nat.one_mul, Nat.reduceMul, Nat.add_zero, Nat.add_assoc, Nat.reduceAdd] at x00 x01 x02 x03 x04 x10 x11 x12 x13 x14 x20 x21 x22 x23 x24
        clear hA'
        by_cases hh : r0.v.n = 2
        · have f1 : ((r0.v.n : Int) != 2) = false := by rw [hh]; rfl
          have f2 : (r0.v.n != 2) = false := by rw [hh]; rfl
          have HT := Lib.hid (try_is hk HX.out hh)
          have HH := Lib.hid hh
          clear hh hk hlen hsc hwh
          go_upto_region 6 with fail
          go_cut [7] (fun s7 wx => ∃ g, s7 = .pointer (some ⟨g, 0, none⟩) ∧ Hid (MsgAt w5 wx g ⟨⟨2, numR r1.v, numR r2.v, 0, 0, false, []⟩, none, 0, 0⟩))
          case first =>
            have hS0 : Below w5.heap.size w5 w5.drew := (Below.refl _ _).drew
            refine wp_region_held_drew (S := fun w' => Below w5.heap.size w5 w') (by kernel_rfl) hS0 (fun hHeld => ?_)
            try simp only [Act.put, List.setIfInBounds_toArray, List.set_cons_zero, List.set_cons_succ]
            (refine wpAnyH_take (i := 0) (oi := { dst := some 31, op := _, type := _, pos := _, after := _, guard := _ }) (v := ?_) rfl (by kernel_rfl) (by kernel_rfl) (by kernel_rfl) (fun _ _ _ h => h) (Or.inl ⟨by kernel_rfl, (by intro W' hS'; obtain ⟨hq1, hq2⟩ := bcellM hS'; go_simp; try with_reducible rfl)⟩) (by assumption) ?_; (try simp only [Act.put, List.setIfInBounds_toArray, List.set_cons_zero, List.set_cons_succ]))
            (refine wpAnyH_take (i := 1) (oi := { dst := some 32, op := _, type := _, pos := _, after := _, guard := _ }) (v := ?_) rfl (by kernel_rfl) (by kernel_rfl) (by kernel_rfl) (fun _ _ _ h => h) (Or.inl ⟨by kernel_rfl, (by intro W' hS'; obtain ⟨hq1, hq2⟩ := bcellM hS'; go_simp; try with_reducible rfl)⟩) (by assumption) ?_; (try simp only [Act.put, List.setIfInBounds_toArray, List.set_cons_zero, List.set_cons_succ]))
            (refine wpAnyH_take (i := 2) (oi := { dst := some 33, op := _, type := _, pos := _, after := _, guard := _ }) (v := ?_) rfl (by kernel_rfl) (by kernel_rfl) (by kernel_rfl) (fun _ _ _ h => h) (Or.inl ⟨by kernel_rfl, (by intro W' hS'; obtain ⟨hq1, hq2⟩ := bcellM hS'; go_simp; try with_reducible rfl)⟩) (by assumption) ?_; (try simp only [Act.put, List.setIfInBounds_toArray, List.set_cons_zero, List.set_cons_succ]))
            (refine wpAnyH_take (i := 3) (oi := { dst := some 34, op := _, type := _, pos := _, after := _, guard := _ }) (v := ?_) rfl (by kernel_rfl) (by kernel_rfl) (by kernel_rfl) (fun _ _ _ h => h) (Or.inl ⟨by kernel_rfl, (by intro W' hS'; obtain ⟨hq1, hq2⟩ := bcellM hS'; go_simp; try with_reducible rfl)⟩) (by assumption) ?_; (try simp only [Act.put, List.setIfInBounds_toArray, List.set_cons_zero, List.set_cons_succ]))
            (refine wpAnyH_take (i := 5) (oi := { dst := some 36, op := _, type := _, pos := _, after := _, guard := _ }) (v := ?_) rfl (by kernel_rfl) (by kernel_rfl) (by kernel_rfl) (fun _ _ _ h => h) (Or.inl ⟨by kernel_rfl, (by intro W' hS'; obtain ⟨hq1, hq2⟩ := bcellM hS'; go_simp; try with_reducible rfl)⟩) (by assumption) ?_; (try simp only [Act.put, List.setIfInBounds_toArray, List.set_cons_zero, List.set_cons_succ]))
            (refine wpAnyH_take (i := 6) (oi := { dst := some 37, op := _, type := _, pos := _, after := _, guard := _ }) (v := ?_) rfl (by kernel_rfl) (by kernel_rfl) (by kernel_rfl) (fun _ _ _ h => h) (Or.inl ⟨by kernel_rfl, (by intro W' hS'; obtain ⟨hq1, hq2⟩ := bcellM hS'; go_simp; try with_reducible rfl)⟩) (by assumption) ?_; (try simp only [Act.put, List.setIfInBounds_toArray, List.set_cons_zero, List.set_cons_succ]))
            (refine wpAnyH_take (i := 7) (oi := { dst := some 38, op := _, type := _, pos := _, after := _, guard := _ }) (v := ?_) rfl (by kernel_rfl) (by kernel_rfl) (by kernel_rfl) (fun _ _ _ h => h) (Or.inl ⟨by kernel_rfl, (by intro W' hS'; obtain ⟨hq1, hq2⟩ := bcellM hS'; go_simp; try with_reducible rfl)⟩) (by assumption) ?_; (try simp only [Act.put, List.setIfInBounds_toArray, List.set_cons_zero, List.set_cons_succ]))
            refine wpAnyH_ready (rs := [4, 10]) (by kernel_rfl) (by simp) ?_
            refine AllReadyH.cons (o := { dst := some 35, op := _, type := _, pos := _, after := _, guard := _ }) rfl (fun K hK => ?_) (AllReadyH.cons (o := { dst := some 7, op := _, type := _, pos := _, after := _, guard := _ }) rfl (fun K hK => ?_) AllReadyH.nil)
            · go_simp; refine (num24_agg r1 _).mono ?_; rintro e w6 ⟨rfl, hb⟩; have hS6 := ext_under hS0 (Nat.le_refl _) hb; refine hK.out _ _ hS6 (fun hHeld => ?_); clear hK K; try simp only [Act.put, List.setIfInBounds_toArray, List.set_cons_zero, List.set_cons_succ]
              refine wpAnyH_ready (rs := [8, 10]) (by kernel_rfl) (by simp) ?_
              refine AllReadyH.cons (o := { dst := some 39, op := _, type := _, pos := _, after := _, guard := _ }) rfl (fun K hK => ?_) (AllReadyH.cons (o := { dst := some 7, op := _, type := _, pos := _, after := _, guard := _ }) rfl (fun K hK => ?_) AllReadyH.nil)
              · go_simp; refine (num24_agg r2 _).mono ?_; rintro e w7 ⟨rfl, hb⟩; have hS7 := ext_under hS6 (Nat.le_refl _) hb; refine hK.out _ _ hS7 (fun hHeld => ?_); clear hK K; try simp only [Act.put, List.setIfInBounds_toArray, List.set_cons_zero, List.set_cons_succ]
                (refine wpAnyH_take (i := 9) (oi := { dst := some 40, op := _, type := _, pos := _, after := _, guard := _ }) (v := ?_) rfl (by kernel_rfl) (by kernel_rfl) (by kernel_rfl) (fun _ _ _ h => h) (Or.inl ⟨by kernel_rfl, (by intro W' hS'; obtain ⟨hq1, hq2⟩ := bcellM hS'; go_simp; try with_reducible rfl)⟩) (by assumption) ?_; (try simp only [Act.put, List.setIfInBounds_toArray, List.set_cons_zero, List.set_cons_succ]))
                refine wpAnyH_ready (rs := [10]) (by kernel_rfl) (by simp) ?_
                refine AllReadyH.cons (o := { dst := some 7, op := _, type := _, pos := _, after := _, guard := _ }) rfl (fun K hK => ?_) AllReadyH.nil
                go_simp; refine hK.out _ _ (Below.alloc hS7 (Below.size hS7) _) (fun hHeld => ?_); clear hK K; try simp only [Act.put, List.setIfInBounds_toArray, List.set_cons_zero, List.set_cons_succ]
                have hsz := hS7.size
                refine wpAnyH_ready (rs := [11]) (by kernel_rfl) (by simp) ?_; refine AllReadyH.cons (o := { dst := none, op := _, type := _, pos := _, after := _, guard := _ }) rfl (fun K hK => ?_) AllReadyH.nil; refine Eq.mpr (if_pos (by kernel_rfl)) ?_; refine wp_store_msg (.tmp 7) (.tmp 40) rfl (⟨⟨2, numR r1.v, numR r2.v, 0, 0, false, []⟩, none, 0, 0⟩ : Mr) rfl rfl (Blk.new w7 _ _) fun w9 hk9 hc9 => ?_; have HG9 := Lib.hid (msg_at hHeld (by omega) hk9 hc9); refine hK.out _ _ HG9.out.2.1 (fun hHeld => ?_); clear hK K; try simp only [Act.put, List.setIfInBounds_toArray, List.set_cons_zero, List.set_cons_succ]; refine wpAnyH_done (by kernel_rfl) ?_ _; go_wp2_with fail; go_meet; exact ⟨_, rfl, HG9⟩
              · go_simp; refine hK.out _ _ (Below.alloc hS6 (Below.size hS6) _) (fun hHeld => ?_); clear hK K; try simp only [Act.put, List.setIfInBounds_toArray, List.set_cons_zero, List.set_cons_succ]
                refine wpAnyH_ready (rs := [8]) (by kernel_rfl) (by simp) ?_
                refine AllReadyH.cons (o := { dst := some 39, op := _, type := _, pos := _, after := _, guard := _ }) rfl (fun K hK => ?_) AllReadyH.nil
                have hA6 := hHeld
                have hsz := hS6.size
                go_simp; refine (num24_agg r2 _).mono ?_; rintro e w7 ⟨rfl, hb⟩; have hS7 := ext_under hA6 (Nat.le_refl _) hb; refine hK.out _ _ hS7 (fun hHeld => ?_); clear hK K; try simp only [Act.put, List.setIfInBounds_toArray, List.set_cons_zero, List.set_cons_succ]
                (refine wpAnyH_take (i := 9) (oi := { dst := some 40, op := _, type := _, pos := _, after := _, guard := _ }) (v := ?_) rfl (by kernel_rfl) (by kernel_rfl) (by kernel_rfl) (fun _ _ _ h => h) (Or.inl ⟨by kernel_rfl, (by intro W' hS'; obtain ⟨hq1, hq2⟩ := bcellM hS'; go_simp; try with_reducible rfl)⟩) (by assumption) ?_; (try simp only [Act.put, List.setIfInBounds_toArray, List.set_cons_zero, List.set_cons_succ]))
                refine wpAnyH_ready (rs := [11]) (by kernel_rfl) (by simp) ?_; refine AllReadyH.cons (o := { dst := none, op := _, type := _, pos := _, after := _, guard := _ }) rfl (fun K hK => ?_) AllReadyH.nil; refine Eq.mpr (if_pos (by kernel_rfl)) ?_; refine wp_store_msg (.tmp 7) (.tmp 40) rfl (⟨⟨2, numR r1.v, numR r2.v, 0, 0, false, []⟩, none, 0, 0⟩ : Mr) rfl rfl ((Blk.new w6 _ _).ext hb) fun w9 hk9 hc9 => ?_; have HG9 := Lib.hid (msg_at hS7 (by omega) hk9 hc9); refine hK.out _ _ HG9.out.2.1 (fun hHeld => ?_); clear hK K; try simp only [Act.put, List.setIfInBounds_toArray, List.set_cons_zero, List.set_cons_succ]; refine wpAnyH_done (by kernel_rfl) ?_ _; go_wp2_with fail; go_meet; exact ⟨_, rfl, HG9⟩
            · go_simp; refine hK.out _ _ (Below.alloc hS0 (Below.size hS0) _) (fun hHeld => ?_); clear hK K; try simp only [Act.put, List.setIfInBounds_toArray, List.set_cons_zero, List.set_cons_succ]
              refine wpAnyH_ready (rs := [4]) (by kernel_rfl) (by simp) ?_
              refine AllReadyH.cons (o := { dst := some 35, op := _, type := _, pos := _, after := _, guard := _ }) rfl (fun K hK => ?_) AllReadyH.nil
              have hA5 := hHeld
              go_simp; refine (num24_agg r1 _).mono ?_; rintro e w6 ⟨rfl, hb⟩; have hS6 := ext_under hA5 (Nat.le_refl _) hb; refine hK.out _ _ hS6 (fun hHeld => ?_); clear hK K; try simp only [Act.put, List.setIfInBounds_toArray, List.set_cons_zero, List.set_cons_succ]
              have hk6 := Lib.hid ((Blk.new w5.drew _ _).ext hb)
              clear hb
              refine wpAnyH_ready (rs := [8]) (by kernel_rfl) (by simp) ?_
              refine AllReadyH.cons (o := { dst := some 39, op := _, type := _, pos := _, after := _, guard := _ }) rfl (fun K hK => ?_) AllReadyH.nil
              go_simp; refine (num24_agg r2 _).mono ?_; rintro e w7 ⟨rfl, hb⟩; have hS7 := ext_under hS6 (Nat.le_refl _) hb; refine hK.out _ _ hS7 (fun hHeld => ?_); clear hK K; try simp only [Act.put, List.setIfInBounds_toArray, List.set_cons_zero, List.set_cons_succ]
              (refine wpAnyH_take (i := 9) (oi := { dst := some 40, op := _, type := _, pos := _, after := _, guard := _ }) (v := ?_) rfl (by kernel_rfl) (by kernel_rfl) (by kernel_rfl) (fun _ _ _ h => h) (Or.inl ⟨by kernel_rfl, (by intro W' hS'; obtain ⟨hq1, hq2⟩ := bcellM hS'; go_simp; try with_reducible rfl)⟩) (by assumption) ?_; (try simp only [Act.put, List.setIfInBounds_toArray, List.set_cons_zero, List.set_cons_succ]))
              refine wpAnyH_ready (rs := [11]) (by kernel_rfl) (by simp) ?_; refine AllReadyH.cons (o := { dst := none, op := _, type := _, pos := _, after := _, guard := _ }) rfl (fun K hK => ?_) AllReadyH.nil; refine Eq.mpr (if_pos (by kernel_rfl)) ?_; refine wp_store_msg (.tmp 7) (.tmp 40) rfl (⟨⟨2, numR r1.v, numR r2.v, 0, 0, false, []⟩, none, 0, 0⟩ : Mr) rfl rfl (hk6.out.ext hb) fun w9 hk9 hc9 => ?_; have HG9 := Lib.hid (msg_at hS7 (by omega) hk9 hc9); refine hK.out _ _ HG9.out.2.1 (fun hHeld => ?_); clear hK K; try simp only [Act.put, List.setIfInBounds_toArray, List.set_cons_zero, List.set_cons_succ]; refine wpAnyH_done (by kernel_rfl) ?_ _; go_wp2_with fail; go_meet; exact ⟨_, rfl, HG9⟩
          case rest =>
            obtain ⟨g, rfl, hG⟩ := hcut
            have hgw : w.heap.size < g := by have h1 := (Array.getElem?_eq_some_iff.1 hP.out.box).1; have h2 := HW5.out.1.size; have h3 := hG.out.2.2; omega
            clear x00 x01 x02 x03 x04 x10 x11 x12 x13 x14 x20 x21 x22 x23 x24 f1 f2
            go_upto_region 16 with fail; have HG8 := hG; clear hG; generalize wc = W8 at *; have HO8 : Hid (OwnA W8 5 1 encB (.slice none 0 0) ([] : List UInt8) ∧ ∀ k, (Value.slice none 0 0).ownBlock = some k → w.heap.size < k) := nil_own
            have k0 := HG8.out.1.cell 0
            have k1 := HG8.out.1.cell 1
            have k2 := HG8.out.1.cell 2
            have k3 := HG8.out.1.cell 3
            have k4 := HG8.out.1.cell 4
            have k5 := HG8.out.1.cell 5
            have k6 := HG8.out.1.cell 6
            simp only [Mr.cells, List.getElem?_toArray, List.getElem?_cons_zero, List.getElem?_cons_succ] at k0 k1 k2 k3 k4 k5 k6
            have HT2 : Hid (tryK l 2 = if mayB (⟨2, numR r1.v, numR r2.v, 0, 0, false, []⟩ : Ms) = true then some (⟨2, numR r1.v, numR r2.v, 0, 0, false, []⟩ : Ms) else none) := HT.out
            clear HT
            cases hmm : mayB (⟨2, numR r1.v, numR r2.v, 0, 0, false, []⟩ : Ms) with
            | false =>
              have HM := Lib.hid fun W => rmay24_agg ⟨(⟨2, numR r1.v, numR r2.v, 0, 0, false, []⟩ : Ms), none, 0, 0⟩ false W (show 2 ≤ 255 by decide) rfl hmm
              have hno : Hid (tryK l 2 = none) := by rw [Hid, HT2.out, hmm]; rfl
              clear hmm HT2
              go_wp2_with (go_at_call 34; refine (HM.out _).mono ?_; rintro e w9 ⟨rfl, hb9⟩)
              go_roundg (gk - 1)
              case measure => omega
              case rel => exact ⟨2 + 1, rfl, by omega, by omega, by omega, hP.out.next hno.out (ext_under (ext_under HW5.out.1 (Nat.le_refl _) HG8.out.2.1) (Nat.le_refl _) hb9)⟩
            | true =>
              have HM := Lib.hid fun W => rmay24_agg ⟨(⟨2, numR r1.v, numR r2.v, 0, 0, false, []⟩ : Ms), none, 0, 0⟩ true W (show 2 ≤ 255 by decide) rfl hmm
              have hpm : Hid (parseM l = ((⟨2, numR r1.v, numR r2.v, 0, 0, false, []⟩ : Ms), 0)) := try_parse (kd := 2) (by rw [HT2.out, hmm]; rfl)
              clear hmm HT2
              go_wp2_with (first | (go_at_call 34; refine (HM.out _).mono ?_; rintro e w9 ⟨rfl, hb9⟩; have HG9 := Lib.hid (HG8.out.1.ext hb9); have HB9 := up_no (up_no (up_no ⟨hP.out.box, hP.out.be⟩ HW5.out.1).out HG8.out.2.1).out hb9; have HO9 := Lib.hid (HO8.out.1.ext hb9); clear hb9 k0 k1 k2 k3 k4 k5 k6; have m0 := HG9.out.cell 0; have m1 := HG9.out.cell 1; have m2 := HG9.out.cell 2; have m3 := HG9.out.cell 3; have m4 := HG9.out.cell 4; have m5 := HG9.out.cell 5; have m6 := HG9.out.cell 6; simp only [Mr.cells, List.getElem?_toArray, List.getElem?_cons_zero, List.getElem?_cons_succ] at m0 m1 m2 m3 m4 m5 m6) | (with_reducible refine wpList_store_row rfl 48 (.tmp 2) (.tmp 75) rfl _ _ rfl rfl 48 _ HB9.out.1 (zM ⟨(⟨2, numR r1.v, numR r2.v, 0, 0, false, []⟩ : Ms), none, 0, 0⟩) rfl (one7 _ _ _ _ _ _ _ _ _) ?_))
              rw [hpm.out]
              exact bodyPost_ret (v := .tuple #[(⟨(⟨2, numR r1.v, numR r2.v, 0, 0, false, []⟩ : Ms), none, 0, 0⟩ : Mr).agg, .int .i64 0]) (results_cell_tmp Try.results28 rfl rfl (mres _ _ ⟨(⟨2, numR r1.v, numR r2.v, 0, 0, false, []⟩ : Ms), none, 0, 0⟩ (setRow_heap _ _ _ _ _ _ HB9.out.1))) rfl ⟨below_setRow HB9.out.2 (Nat.le_refl _) _, ⟨(⟨2, numR r1.v, numR r2.v, 0, 0, false, []⟩ : Ms), none, 0, 0⟩, rfl, rfl, HO9.out.chg (chg_setRow _ _ _) (fun k hk => by have := HO8.out.2 k hk; omega), fun k hk => by have := HO8.out.2 k hk; omega⟩
        · have f1 : ((r0.v.n : Int) != 2) = true := by simp; omega
          have f2 : (r0.v.n != 2) = true := by simpa using hh
          have hno := Lib.hid (try_hd hk (by rw [HX.out]; rfl) hh)
          clear hh hk hlen hsc hwh
          go_wp2
          go_roundg (gk - 1)
          case measure => omega
          case rel => exact ⟨2 + 1, rfl, by omega, by omega, by omega, hP.out.next hno.out HW5.out.1⟩
      · have hno := Lib.hid (try_er hk her)
        have her2 : ((wholeP (schS (⟨false, false, false, 0, true⟩ : Kk)) l).2 != 0) = true := by simpa using her
        generalize wholeP (schS (⟨false, false, false, 0, true⟩ : Kk)) l = x at *
        obtain ⟨xs, er⟩ := x
        simp only at her2
        clear her hk
        go_wp2_with (first | (go_at_call 61; refine (hsc.out _).mono ?_; rintro e w' ⟨rfl, rfl⟩) | (go_at_call 62; refine (hwh.out _ hP.out.be).mono ?_; rintro e w5 ⟨hb5, A2, n2, c2, rs, rfl, hrs, hvo⟩; have HW5 := Lib.hid (And.intro hb5 (And.intro hrs hvo)); clear hb5 hrs hvo))
        go_roundg (gk - 1)
        case measure => omega
        case rel => exact ⟨2 + 1, rfl, by omega, by omega, by omega, hP.out.next hno.out HW5.out.1⟩
    · have hk : kkOf 3 = some (⟨false, true, false, 0, true⟩ : Kk) := rfl
      have hsc : Hid (∀ W, Calls Try.prog 61 #[.int .u8 3] W fun e w' => e = .returned (.string ⟨#[110, 110, 110, 110]⟩) ∧ W = w') := fun W => rschema_any24 3 W (by decide)
      have hwh : Hid (∀ W, Below w.heap.size w W → Calls Try.prog 62 #[.string ⟨#[110, 110, 110, 110]⟩, .slice A n cap] W (RetWhole W (wholeP (schS (⟨false, true, false, 0, true⟩ : Kk)) l))) := fun W h => rwhole_any ⟨#[110, 110, 110, 110]⟩ l A n cap W (by decide) (HL.out.ext h) hn hc (by omega)
      by_cases her : (wholeP (schS (⟨false, true, false, 0, true⟩ : Kk)) l).2 = 0
      · obtain ⟨xs, hxs⟩ : ∃ xs, wholeP (schS (⟨false, true, false, 0, true⟩ : Kk)) l = (xs, 0) := ⟨(wholeP (schS (⟨false, true, false, 0, true⟩ : Kk)) l).1, Prod.ext rfl her⟩
        have hlen := whole_len her
        rw [hxs] at hwh hlen
        have HX := Lib.hid hxs
        clear her hxs
        go_upto_region 5 with (first | (go_at_call 61; refine (hsc.out _).mono ?_; rintro e w' ⟨rfl, rfl⟩) | (go_at_call 62; refine (hwh.out _ hP.out.be).mono ?_; rintro e w5 ⟨hb5, A2, n2, c2, rs, rfl, hrs, hvo⟩; have HW5 := Lib.hid (And.intro hb5 (And.intro hrs hvo)); clear hb5 hrs hvo))
        obtain ⟨r0, r1, r2, r3, rfl⟩ := len4 (by have := congrArg List.length HW5.out.2.1; rw [List.length_map] at this; rw [this]; exact hlen)
        have hxe := HW5.out.2.1
        subst hxe
        have hn2 : n2 = _ := HW5.out.2.2.own.len
        subst hn2
        have hsl5 := HW5.out.2.2.own.sl Wr.cells_len
        obtain ⟨vb, vo, rfl, hvb, x00, x01, x02, x03, x04⟩ := Wr.at_ hsl5 (j := 0) (r := r0) rfl
        obtain ⟨vb', vo', hA', _, x10, x11, x12, x13, x14⟩ := Wr.at_ hsl5 (j := 1) (r := r1) rfl
        obtain ⟨rfl, rfl⟩ : vb = vb' ∧ vo = vo' := by injection hA' with h; injection h with h1 h2; exact ⟨h1, h2⟩
        obtain ⟨vb', vo', hA', _, x20, x21, x22, x23, x24⟩ := Wr.at_ hsl5 (j := 2) (r := r2) rfl
        obtain ⟨rfl, rfl⟩ : vb = vb' ∧ vo = vo' := by injection hA' with h; injection h with h1 h2; exact ⟨h1, h2⟩
        simp only [Nat.zero_mul, Nat.one_mul, Nat.reduceMul, Nat.add_zero, Nat.add_assoc, Nat.reduceAdd] at x00 x01 x02 x03 x04 x10 x11 x12 x13 x14 x20 x21 x22 x23 x24
        clear hA'
        by_cases hh : r0.v.n = 3
        · have f1 : ((r0.v.n : Int) != 3) = false := by rw [hh]; rfl
          have f2 : (r0.v.n != 3) = false := by rw [hh]; rfl
          have HT := Lib.hid (try_is hk HX.out hh)
          have HH := Lib.hid hh
          clear hh hk hlen hsc hwh
          go_upto_region 6 with fail
          go_cut [7] (fun s7 wx => ∃ g, s7 = .pointer (some ⟨g, 0, none⟩) ∧ Hid (MsgAt w5 wx g ⟨⟨3, numR r1.v, numR r2.v, 0, 0, false, []⟩, none, 0, 0⟩))
          case first =>
            have hS0 : Below w5.heap.size w5 w5.drew := (Below.refl _ _).drew
            refine wp_region_held_drew (S := fun w' => Below w5.heap.size w5 w') (by kernel_rfl) hS0 (fun hHeld => ?_)
            try simp only [Act.put, List.setIfInBounds_toArray, List.set_cons_zero, List.set_cons_succ]
            (refine wpAnyH_take (i := 0) (oi := { dst := some 31, op := _, type := _, pos := _, after := _, guard := _ }) (v := ?_) rfl (by kernel_rfl) (by kernel_rfl) (by kernel_rfl) (fun _ _ _ h => h) (Or.inl ⟨by kernel_rfl, (by intro W' hS'; obtain ⟨hq1, hq2⟩ := bcellM hS'; go_simp; try with_reducible rfl)⟩) (by assumption) ?_; (try simp only [Act.put, List.setIfInBounds_toArray, List.set_cons_zero, List.set_cons_succ]))
            (refine wpAnyH_take (i := 1) (oi := { dst := some 32, op := _, type := _, pos := _, after := _, guard := _ }) (v := ?_) rfl (by kernel_rfl) (by kernel_rfl) (by kernel_rfl) (fun _ _ _ h => h) (Or.inl ⟨by kernel_rfl, (by intro W' hS'; obtain ⟨hq1, hq2⟩ := bcellM hS'; go_simp; try with_reducible rfl)⟩) (by assumption) ?_; (try simp only [Act.put, List.setIfInBounds_toArray, List.set_cons_zero, List.set_cons_succ]))
            (refine wpAnyH_take (i := 2) (oi := { dst := some 33, op := _, type := _, pos := _, after := _, guard := _ }) (v := ?_) rfl (by kernel_rfl) (by kernel_rfl) (by kernel_rfl) (fun _ _ _ h => h) (Or.inl ⟨by kernel_rfl, (by intro W' hS'; obtain ⟨hq1, hq2⟩ := bcellM hS'; go_simp; try with_reducible rfl)⟩) (by assumption) ?_; (try simp only [Act.put, List.setIfInBounds_toArray, List.set_cons_zero, List.set_cons_succ]))
            (refine wpAnyH_take (i := 3) (oi := { dst := some 34, op := _, type := _, pos := _, after := _, guard := _ }) (v := ?_) rfl (by kernel_rfl) (by kernel_rfl) (by kernel_rfl) (fun _ _ _ h => h) (Or.inl ⟨by kernel_rfl, (by intro W' hS'; obtain ⟨hq1, hq2⟩ := bcellM hS'; go_simp; try with_reducible rfl)⟩) (by assumption) ?_; (try simp only [Act.put, List.setIfInBounds_toArray, List.set_cons_zero, List.set_cons_succ]))
            (refine wpAnyH_take (i := 5) (oi := { dst := some 36, op := _, type := _, pos := _, after := _, guard := _ }) (v := ?_) rfl (by kernel_rfl) (by kernel_rfl) (by kernel_rfl) (fun _ _ _ h => h) (Or.inl ⟨by kernel_rfl, (by intro W' hS'; obtain ⟨hq1, hq2⟩ := bcellM hS'; go_simp; try with_reducible rfl)⟩) (by assumption) ?_; (try simp only [Act.put, List.setIfInBounds_toArray, List.set_cons_zero, List.set_cons_succ]))
            (refine wpAnyH_take (i := 6) (oi := { dst := some 37, op := _, type := _, pos := _, after := _, guard := _ }) (v := ?_) rfl (by kernel_rfl) (by kernel_rfl) (by kernel_rfl) (fun _ _ _ h => h) (Or.inl ⟨by kernel_rfl, (by intro W' hS'; obtain ⟨hq1, hq2⟩ := bcellM hS'; go_simp; try with_reducible rfl)⟩) (by assumption) ?_; (try simp only [Act.put, List.setIfInBounds_toArray, List.set_cons_zero, List.set_cons_succ]))
            (refine wpAnyH_take (i := 7) (oi := { dst := some 38, op := _, type := _, pos := _, after := _, guard := _ }) (v := ?_) rfl (by kernel_rfl) (by kernel_rfl) (by kernel_rfl) (fun _ _ _ h => h) (Or.inl ⟨by kernel_rfl, (by intro W' hS'; obtain ⟨hq1, hq2⟩ := bcellM hS'; go_simp; try with_reducible rfl)⟩) (by assumption) ?_; (try simp only [Act.put, List.setIfInBounds_toArray, List.set_cons_zero, List.set_cons_succ]))
            refine wpAnyH_ready (rs := [4, 10]) (by kernel_rfl) (by simp) ?_
            refine AllReadyH.cons (o := { dst := some 35, op := _, type := _, pos := _, after := _, guard := _ }) rfl (fun K hK => ?_) (AllReadyH.cons (o := { dst := some 7, op := _, type := _, pos := _, after := _, guard := _ }) rfl (fun K hK => ?_) AllReadyH.nil)
            · go_simp; refine (num24_agg r1 _).mono ?_; rintro e w6 ⟨rfl, hb⟩; have hS6 := ext_under hS0 (Nat.le_refl _) hb; refine hK.out _ _ hS6 (fun hHeld => ?_); clear hK K; try simp only [Act.put, List.setIfInBounds_toArray, List.set_cons_zero, List.set_cons_succ]
              refine wpAnyH_ready (rs := [8, 10]) (by kernel_rfl) (by simp) ?_
              refine AllReadyH.cons (o := { dst := some 39, op := _, type := _, pos := _, after := _, guard := _ }) rfl (fun K hK => ?_) (AllReadyH.cons (o := { dst := some 7, op := _, type := _, pos := _, after := _, guard := _ }) rfl (fun K hK => ?_) AllReadyH.nil)
              · go_simp; refine (num24_agg r2 _).mono ?_; rintro e w7 ⟨rfl, hb⟩; have hS7 := ext_under hS6 (Nat.le_refl _) hb; refine hK.out _ _ hS7 (fun hHeld => ?_); clear hK K; try simp only [Act.put, List.setIfInBounds_toArray, List.set_cons_zero, List.set_cons_succ]
                (refine wpAnyH_take (i := 9) (oi := { dst := some 40, op := _, type := _, pos := _, after := _, guard := _ }) (v := ?_) rfl (by kernel_rfl) (by kernel_rfl) (by kernel_rfl) (fun _ _ _ h => h) (Or.inl ⟨by kernel_rfl, (by intro W' hS'; obtain ⟨hq1, hq2⟩ := bcellM hS'; go_simp; try with_reducible rfl)⟩) (by assumption) ?_; (try simp only [Act.put, List.setIfInBounds_toArray, List.set_cons_zero, List.set_cons_succ]))
                refine wpAnyH_ready (rs := [10]) (by kernel_rfl) (by simp) ?_
                refine AllReadyH.cons (o := { dst := some 7, op := _, type := _, pos := _, after := _, guard := _ }) rfl (fun K hK => ?_) AllReadyH.nil
                go_simp; refine hK.out _ _ (Below.alloc hS7 (Below.size hS7) _) (fun hHeld => ?_); clear hK K; try simp only [Act.put, List.setIfInBounds_toArray, List.set_cons_zero, List.set_cons_succ]
                have hsz := hS7.size
                refine wpAnyH_ready (rs := [11]) (by kernel_rfl) (by simp) ?_; refine AllReadyH.cons (o := { dst := none, op := _, type := _, pos := _, after := _, guard := _ }) rfl (fun K hK => ?_) AllReadyH.nil; refine Eq.mpr (if_pos (by kernel_rfl)) ?_; refine wp_store_msg (.tmp 7) (.tmp 40) rfl (⟨⟨3, numR r1.v, numR r2.v, 0, 0, false, []⟩, none, 0, 0⟩ : Mr) rfl rfl (Blk.new w7 _ _) fun w9 hk9 hc9 => ?_; have HG9 := Lib.hid (msg_at hHeld (by omega) hk9 hc9); refine hK.out _ _ HG9.out.2.1 (fun hHeld => ?_); clear hK K; try simp only [Act.put, List.setIfInBounds_toArray, List.set_cons_zero, List.set_cons_succ]; refine wpAnyH_done (by kernel_rfl) ?_ _; go_wp2_with fail; go_meet; exact ⟨_, rfl, HG9⟩
              · go_simp; refine hK.out _ _ (Below.alloc hS6 (Below.size hS6) _) (fun hHeld => ?_); clear hK K; try simp only [Act.put, List.setIfInBounds_toArray, List.set_cons_zero, List.set_cons_succ]
                refine wpAnyH_ready (rs := [8]) (by kernel_rfl) (by simp) ?_
                refine AllReadyH.cons (o := { dst := some 39, op := _, type := _, pos := _, after := _, guard := _ }) rfl (fun K hK => ?_) AllReadyH.nil
                have hA6 := hHeld
                have hsz := hS6.size
                go_simp; refine (num24_agg r2 _).mono ?_; rintro e w7 ⟨rfl, hb⟩; have hS7 := ext_under hA6 (Nat.le_refl _) hb; refine hK.out _ _ hS7 (fun hHeld => ?_); clear hK K; try simp only [Act.put, List.setIfInBounds_toArray, List.set_cons_zero, List.set_cons_succ]
                (refine wpAnyH_take (i := 9) (oi := { dst := some 40, op := _, type := _, pos := _, after := _, guard := _ }) (v := ?_) rfl (by kernel_rfl) (by kernel_rfl) (by kernel_rfl) (fun _ _ _ h => h) (Or.inl ⟨by kernel_rfl, (by intro W' hS'; obtain ⟨hq1, hq2⟩ := bcellM hS'; go_simp; try with_reducible rfl)⟩) (by assumption) ?_; (try simp only [Act.put, List.setIfInBounds_toArray, List.set_cons_zero, List.set_cons_succ]))
                refine wpAnyH_ready (rs := [11]) (by kernel_rfl) (by simp) ?_; refine AllReadyH.cons (o := { dst := none, op := _, type := _, pos := _, after := _, guard := _ }) rfl (fun K hK => ?_) AllReadyH.nil; refine Eq.mpr (if_pos (by kernel_rfl)) ?_; refine wp_store_msg (.tmp 7) (.tmp 40) rfl (⟨⟨3, numR r1.v, numR r2.v, 0, 0, false, []⟩, none, 0, 0⟩ : Mr) rfl rfl ((Blk.new w6 _ _).ext hb) fun w9 hk9 hc9 => ?_; have HG9 := Lib.hid (msg_at hS7 (by omega) hk9 hc9); refine hK.out _ _ HG9.out.2.1 (fun hHeld => ?_); clear hK K; try simp only [Act.put, List.setIfInBounds_toArray, List.set_cons_zero, List.set_cons_succ]; refine wpAnyH_done (by kernel_rfl) ?_ _; go_wp2_with fail; go_meet; exact ⟨_, rfl, HG9⟩
            · go_simp; refine hK.out _ _ (Below.alloc hS0 (Below.size hS0) _) (fun hHeld => ?_); clear hK K; try simp only [Act.put, List.setIfInBounds_toArray, List.set_cons_zero, List.set_cons_succ]
              refine wpAnyH_ready (rs := [4]) (by kernel_rfl) (by simp) ?_
              refine AllReadyH.cons (o := { dst := some 35, op := _, type := _, pos := _, after := _, guard := _ }) rfl (fun K hK => ?_) AllReadyH.nil
              have hA5 := hHeld
              go_simp; refine (num24_agg r1 _).mono ?_; rintro e w6 ⟨rfl, hb⟩; have hS6 := ext_under hA5 (Nat.le_refl _) hb; refine hK.out _ _ hS6 (fun hHeld => ?_); clear hK K; try simp only [Act.put, List.setIfInBounds_toArray, List.set_cons_zero, List.set_cons_succ]
              have hk6 := Lib.hid ((Blk.new w5.drew _ _).ext hb)
              clear hb
              refine wpAnyH_ready (rs := [8]) (by kernel_rfl) (by simp) ?_
              refine AllReadyH.cons (o := { dst := some 39, op := _, type := _, pos := _, after := _, guard := _ }) rfl (fun K hK => ?_) AllReadyH.nil
              go_simp; refine (num24_agg r2 _).mono ?_; rintro e w7 ⟨rfl, hb⟩; have hS7 := ext_under hS6 (Nat.le_refl _) hb; refine hK.out _ _ hS7 (fun hHeld => ?_); clear hK K; try simp only [Act.put, List.setIfInBounds_toArray, List.set_cons_zero, List.set_cons_succ]
              (refine wpAnyH_take (i := 9) (oi := { dst := some 40, op := _, type := _, pos := _, after := _, guard := _ }) (v := ?_) rfl (by kernel_rfl) (by kernel_rfl) (by kernel_rfl) (fun _ _ _ h => h) (Or.inl ⟨by kernel_rfl, (by intro W' hS'; obtain ⟨hq1, hq2⟩ := bcellM hS'; go_simp; try with_reducible rfl)⟩) (by assumption) ?_; (try simp only [Act.put, List.setIfInBounds_toArray, List.set_cons_zero, List.set_cons_succ]))
              refine wpAnyH_ready (rs := [11]) (by kernel_rfl) (by simp) ?_; refine AllReadyH.cons (o := { dst := none, op := _, type := _, pos := _, after := _, guard := _ }) rfl (fun K hK => ?_) AllReadyH.nil; refine Eq.mpr (if_pos (by kernel_rfl)) ?_; refine wp_store_msg (.tmp 7) (.tmp 40) rfl (⟨⟨3, numR r1.v, numR r2.v, 0, 0, false, []⟩, none, 0, 0⟩ : Mr) rfl rfl (hk6.out.ext hb) fun w9 hk9 hc9 => ?_; have HG9 := Lib.hid (msg_at hS7 (by omega) hk9 hc9); refine hK.out _ _ HG9.out.2.1 (fun hHeld => ?_); clear hK K; try simp only [Act.put, List.setIfInBounds_toArray, List.set_cons_zero, List.set_cons_succ]; refine wpAnyH_done (by kernel_rfl) ?_ _; go_wp2_with fail; go_meet; exact ⟨_, rfl, HG9⟩
          case rest =>
            obtain ⟨g, rfl, hG⟩ := hcut
            have hgw : w.heap.size < g := by have h1 := (Array.getElem?_eq_some_iff.1 hP.out.box).1; have h2 := HW5.out.1.size; have h3 := hG.out.2.2; omega
            clear x00 x01 x02 x03 x04 x10 x11 x12 x13 x14 x20 x21 x22 x23 x24 f1 f2
            obtain ⟨vb', vo', hA', _, x30, x31, x32, x33, x34⟩ := Wr.at_ hsl5 (j := 3) (r := r3) rfl; obtain ⟨rfl, rfl⟩ : vb = vb' ∧ vo = vo' := (by injection hA' with h; injection h with h1 h2; exact ⟨h1, h2⟩); simp only [Nat.reduceMul, Nat.add_assoc, Nat.reduceAdd] at x30 x31 x32 x33 x34; obtain ⟨hq1, _⟩ := bcellM hG.out.2.1; have y30 := (hq1 vb _ hvb).trans x30; have y31 := (hq1 vb _ hvb).trans x31; have y32 := (hq1 vb _ hvb).trans x32; have y33 := (hq1 vb _ hvb).trans x33; have y34 := (hq1 vb _ hvb).trans x34; clear hq1 hA'; go_upto_region 16 with (go_at_call 63; refine (num24_agg r3 _).mono ?_; rintro e w6 ⟨rfl, hb6⟩; have HG6 := Lib.hid (hG.out.ext hb6); clear hb6; have c3 := HG6.out.1.cell 3; have f3 := HG6.out.1.free 3; have c4 := HG6.out.1.cell 4; have f4 := HG6.out.1.free 4; simp only [Mr.cells, List.getElem?_toArray, List.getElem?_cons_zero, List.getElem?_cons_succ] at c3 c4); have HG8 := Lib.hid (HG6.out.set 4 (.int .i64 (numR r3.v)) (r' := ⟨⟨3, numR r1.v, numR r2.v, 0, numR r3.v, false, []⟩, none, 0, 0⟩) rfl); clear c3 f3 c4 f4 y30 y31 y32 y33 y34 x30 x31 x32 x33 x34 HG6; generalize w6.setCell ⟨g, 4, none⟩ (.int .i64 (numR r3.v)) = W8 at *; have HO8 : Hid (OwnA W8 5 1 encB (.slice none 0 0) ([] : List UInt8) ∧ ∀ k, (Value.slice none 0 0).ownBlock = some k → w.heap.size < k) := nil_own
            have k0 := HG8.out.1.cell 0
            have k1 := HG8.out.1.cell 1
            have k2 := HG8.out.1.cell 2
            have k3 := HG8.out.1.cell 3
            have k4 := HG8.out.1.cell 4
            have k5 := HG8.out.1.cell 5
            have k6 := HG8.out.1.cell 6
            simp only [Mr.cells, List.getElem?_toArray, List.getElem?_cons_zero, List.getElem?_cons_succ] at k0 k1 k2 k3 k4 k5 k6
            have HT2 : Hid (tryK l 3 = if mayB (⟨3, numR r1.v, numR r2.v, 0, numR r3.v, false, []⟩ : Ms) = true then some (⟨3, numR r1.v, numR r2.v, 0, numR r3.v, false, []⟩ : Ms) else none) := HT.out
            clear HT
            cases hmm : mayB (⟨3, numR r1.v, numR r2.v, 0, numR r3.v, false, []⟩ : Ms) with
            | false =>
              have HM := Lib.hid fun W => rmay24_agg ⟨(⟨3, numR r1.v, numR r2.v, 0, numR r3.v, false, []⟩ : Ms), none, 0, 0⟩ false W (show 3 ≤ 255 by decide) rfl hmm
              have hno : Hid (tryK l 3 = none) := by rw [Hid, HT2.out, hmm]; rfl
              clear hmm HT2
              go_wp2_with (go_at_call 34; refine (HM.out _).mono ?_; rintro e w9 ⟨rfl, hb9⟩)
              go_roundg (gk - 1)
              case measure => omega
              case rel => exact ⟨3 + 1, rfl, by omega, by omega, by omega, hP.out.next hno.out (ext_under (ext_under HW5.out.1 (Nat.le_refl _) HG8.out.2.1) (Nat.le_refl _) hb9)⟩
            | true =>
              have HM := Lib.hid fun W => rmay24_agg ⟨(⟨3, numR r1.v, numR r2.v, 0, numR r3.v, false, []⟩ : Ms), none, 0, 0⟩ true W (show 3 ≤ 255 by decide) rfl hmm
              have hpm : Hid (parseM l = ((⟨3, numR r1.v, numR r2.v, 0, numR r3.v, false, []⟩ : Ms), 0)) := try_parse (kd := 3) (by rw [HT2.out, hmm]; rfl)
              clear hmm HT2
              go_wp2_with (first | (go_at_call 34; refine (HM.out _).mono ?_; rintro e w9 ⟨rfl, hb9⟩; have HG9 := Lib.hid (HG8.out.1.ext hb9); have HB9 := up_no (up_no (up_no ⟨hP.out.box, hP.out.be⟩ HW5.out.1).out HG8.out.2.1).out hb9; have HO9 := Lib.hid (HO8.out.1.ext hb9); clear hb9 k0 k1 k2 k3 k4 k5 k6; have m0 := HG9.out.cell 0; have m1 := HG9.out.cell 1; have m2 := HG9.out.cell 2; have m3 := HG9.out.cell 3; have m4 := HG9.out.cell 4; have m5 := HG9.out.cell 5; have m6 := HG9.out.cell 6; simp only [Mr.cells, List.getElem?_toArray, List.getElem?_cons_zero, List.getElem?_cons_succ] at m0 m1 m2 m3 m4 m5 m6) | (with_reducible refine wpList_store_row rfl 48 (.tmp 2) (.tmp 75) rfl _ _ rfl rfl 48 _ HB9.out.1 (zM ⟨(⟨3, numR r1.v, numR r2.v, 0, numR r3.v, false, []⟩ : Ms), none, 0, 0⟩) rfl (one7 _ _ _ _ _ _ _ _ _) ?_))
              rw [hpm.out]
              exact bodyPost_ret (v := .tuple #[(⟨(⟨3, numR r1.v, numR r2.v, 0, numR r3.v, false, []⟩ : Ms), none, 0, 0⟩ : Mr).agg, .int .i64 0]) (results_cell_tmp Try.results28 rfl rfl (mres _ _ ⟨(⟨3, numR r1.v, numR r2.v, 0, numR r3.v, false, []⟩ : Ms), none, 0, 0⟩ (setRow_heap _ _ _ _ _ _ HB9.out.1))) rfl ⟨below_setRow HB9.out.2 (Nat.le_refl _) _, ⟨(⟨3, numR r1.v, numR r2.v, 0, numR r3.v, false, []⟩ : Ms), none, 0, 0⟩, rfl, rfl, HO9.out.chg (chg_setRow _ _ _) (fun k hk => by have := HO8.out.2 k hk; omega), fun k hk => by have := HO8.out.2 k hk; omega⟩
        · have f1 : ((r0.v.n : Int) != 3) = true := by simp; omega
          have f2 : (r0.v.n != 3) = true := by simpa using hh
          have hno := Lib.hid (try_hd hk (by rw [HX.out]; rfl) hh)
          clear hh hk hlen hsc hwh
          go_wp2
          go_roundg (gk - 1)
          case measure => omega
          case rel => exact ⟨3 + 1, rfl, by omega, by omega, by omega, hP.out.next hno.out HW5.out.1⟩
      · have hno := Lib.hid (try_er hk her)
        have her2 : ((wholeP (schS (⟨false, true, false, 0, true⟩ : Kk)) l).2 != 0) = true := by simpa using her
        generalize wholeP (schS (⟨false, true, false, 0, true⟩ : Kk)) l = x at *
        obtain ⟨xs, er⟩ := x
        simp only at her2
        clear her hk
        go_wp2_with (first | (go_at_call 61; refine (hsc.out _).mono ?_; rintro e w' ⟨rfl, rfl⟩) | (go_at_call 62; refine (hwh.out _ hP.out.be).mono ?_; rintro e w5 ⟨hb5, A2, n2, c2, rs, rfl, hrs, hvo⟩; have HW5 := Lib.hid (And.intro hb5 (And.intro hrs hvo)); clear hb5 hrs hvo))
        go_roundg (gk - 1)
        case measure => omega
        case rel => exact ⟨3 + 1, rfl, by omega, by omega, by omega, hP.out.next hno.out HW5.out.1⟩
    · have hk : kkOf 4 = some (⟨false, true, true, 1, false⟩ : Kk) := rfl
      have hsc : Hid (∀ W, Calls Try.prog 61 #[.int .u8 4] W fun e w' => e = .returned (.string ⟨#[110, 110, 110, 110, 102, 98]⟩) ∧ W = w') := fun W => rschema_any24 4 W (by decide)
      have hwh : Hid (∀ W, Below w.heap.size w W → Calls Try.prog 62 #[.string ⟨#[110, 110, 110, 110, 102, 98]⟩, .slice A n cap] W (RetWhole W (wholeP (schS (⟨false, true, true, 1, false⟩ : Kk)) l))) := fun W h => rwhole_any ⟨#[110, 110, 110, 110, 102, 98]⟩ l A n cap W (by decide) (HL.out.ext h) hn hc (by omega)
      by_cases her : (wholeP (schS (⟨false, true, true, 1, false⟩ : Kk)) l).2 = 0
      · obtain ⟨xs, hxs⟩ : ∃ xs, wholeP (schS (⟨false, true, true, 1, false⟩ : Kk)) l = (xs, 0) := ⟨(wholeP (schS (⟨false, true, true, 1, false⟩ : Kk)) l).1, Prod.ext rfl her⟩
        have hlen := whole_len her
        rw [hxs] at hwh hlen
        have HX := Lib.hid hxs
        clear her hxs
        go_upto_region 5 with (first | (go_at_call 61; refine (hsc.out _).mono ?_; rintro e w' ⟨rfl, rfl⟩) | (go_at_call 62; refine (hwh.out _ hP.out.be).mono ?_; rintro e w5 ⟨hb5, A2, n2, c2, rs, rfl, hrs, hvo⟩; have HW5 := Lib.hid (And.intro hb5 (And.intro hrs hvo)); clear hb5 hrs hvo))
        obtain ⟨r0, r1, r2, r3, r4, r5, rfl⟩ := len6 (by have := congrArg List.length HW5.out.2.1; rw [List.length_map] at this; rw [this]; exact hlen)
        have hxe := HW5.out.2.1
        subst hxe
        have hn2 : n2 = _ := HW5.out.2.2.own.len
        subst hn2
        have hsl5 := HW5.out.2.2.own.sl Wr.cells_len
        obtain ⟨vb, vo, rfl, hvb, x00, x01, x02, x03, x04⟩ := Wr.at_ hsl5 (j := 0) (r := r0) rfl
        obtain ⟨vb', vo', hA', _, x10, x11, x12, x13, x14⟩ := Wr.at_ hsl5 (j := 1) (r := r1) rfl
        obtain ⟨rfl, rfl⟩ : vb = vb' ∧ vo = vo' := by injection hA' with h; injection h with h1 h2; exact ⟨h1, h2⟩
        obtain ⟨vb', vo', hA', _, x20, x21, x22, x23, x24⟩ := Wr.at_ hsl5 (j := 2) (r := r2) rfl
        obtain ⟨rfl, rfl⟩ : vb = vb' ∧ vo = vo' := by injection hA' with h; injection h with h1 h2; exact ⟨h1, h2⟩
        simp only [Nat.zero_mul, Nat.one_mul, Nat.reduceMul, Nat.add_zero, Nat.add_assoc, Nat.reduceAdd] at x00 x01 x02 x03 x04 x10 x11 x12 x13 x14 x20 x21 x22 x23 x24
        clear hA'
        by_cases hh : r0.v.n = 4
        · have f1 : ((r0.v.n : Int) != 4) = false := by rw [hh]; rfl
          have f2 : (r0.v.n != 4) = false := by rw [hh]; rfl
          have HT := Lib.hid (try_is hk HX.out hh)
          have HH := Lib.hid hh
          clear hh hk hlen hsc hwh
          go_upto_region 6 with fail
          go_cut [7] (fun s7 wx => ∃ g, s7 = .pointer (some ⟨g, 0, none⟩) ∧ Hid (MsgAt w5 wx g ⟨⟨4, numR r1.v, numR r2.v, 0, 0, false, []⟩, none, 0, 0⟩))
          case first =>
            have hS0 : Below w5.heap.size w5 w5.drew := (Below.refl _ _).drew
            refine wp_region_held_drew (S := fun w' => Below w5.heap.size w5 w') (by kernel_rfl) hS0 (fun hHeld => ?_)
            try simp only [Act.put, List.setIfInBounds_toArray, List.set_cons_zero, List.set_cons_succ]
            (refine wpAnyH_take (i := 0) (oi := { dst := some 31, op := _, type := _, pos := _, after := _, guard := _ }) (v := ?_) rfl (by kernel_rfl) (by kernel_rfl) (by kernel_rfl) (fun _ _ _ h => h) (Or.inl ⟨by kernel_rfl, (by intro W' hS'; obtain ⟨hq1, hq2⟩ := bcellM hS'; go_simp; try with_reducible rfl)⟩) (by assumption) ?_; (try simp only [Act.put, List.setIfInBounds_toArray, List.set_cons_zero, List.set_cons_succ]))
            (refine wpAnyH_take (i := 1) (oi := { dst := some 32, op := _, type := _, pos := _, after := _, guard := _ }) (v := ?_) rfl (by kernel_rfl) (by kernel_rfl) (by kernel_rfl) (fun _ _ _ h => h) (Or.inl ⟨by kernel_rfl, (by intro W' hS'; obtain ⟨hq1, hq2⟩ := bcellM hS'; go_simp; try with_reducible rfl)⟩) (by assumption) ?_; (try simp only [Act.put, List.setIfInBounds_toArray, List.set_cons_zero, List.set_cons_succ]))
            (refine wpAnyH_take (i := 2) (oi := { dst := some 33, op := _, type := _, pos := _, after := _, guard := _ }) (v := ?_) rfl (by kernel_rfl) (by kernel_rfl) (by kernel_rfl) (fun _ _ _ h => h) (Or.inl ⟨by kernel_rfl, (by intro W' hS'; obtain ⟨hq1, hq2⟩ := bcellM hS'; go_simp; try with_reducible rfl)⟩) (by assumption) ?_; (try simp only [Act.put, List.setIfInBounds_toArray, List.set_cons_zero, List.set_cons_succ]))
            (refine wpAnyH_take (i := 3) (oi := { dst := some 34, op := _, type := _, pos := _, after := _, guard := _ }) (v := ?_) rfl (by kernel_rfl) (by kernel_rfl) (by kernel_rfl) (fun _ _ _ h => h) (Or.inl ⟨by kernel_rfl, (by intro W' hS'; obtain ⟨hq1, hq2⟩ := bcellM hS'; go_simp; try with_reducible rfl)⟩) (by assumption) ?_; (try simp only [Act.put, List.setIfInBounds_toArray, List.set_cons_zero, List.set_cons_succ]))
            (refine wpAnyH_take (i := 5) (oi := { dst := some 36, op := _, type := _, pos := _, after := _, guard := _ }) (v := ?_) rfl (by kernel_rfl) (by kernel_rfl) (by kernel_rfl) (fun _ _ _ h => h) (Or.inl ⟨by kernel_rfl, (by intro W' hS'; obtain ⟨hq1, hq2⟩ := bcellM hS'; go_simp; try with_reducible rfl)⟩) (by assumption) ?_; (try simp only [Act.put, List.setIfInBounds_toArray, List.set_cons_zero, List.set_cons_succ]))
            (refine wpAnyH_take (i := 6) (oi := { dst := some 37, op := _, type := _, pos := _, after := _, guard := _ }) (v := ?_) rfl (by kernel_rfl) (by kernel_rfl) (by kernel_rfl) (fun _ _ _ h => h) (Or.inl ⟨by kernel_rfl, (by intro W' hS'; obtain ⟨hq1, hq2⟩ := bcellM hS'; go_simp; try with_reducible rfl)⟩) (by assumption) ?_; (try simp only [Act.put, List.setIfInBounds_toArray, List.set_cons_zero, List.set_cons_succ]))
            (refine wpAnyH_take (i := 7) (oi := { dst := some 38, op := _, type := _, pos := _, after := _, guard := _ }) (v := ?_) rfl (by kernel_rfl) (by kernel_rfl) (by kernel_rfl) (fun _ _ _ h => h) (Or.inl ⟨by kernel_rfl, (by intro W' hS'; obtain ⟨hq1, hq2⟩ := bcellM hS'; go_simp; try with_reducible rfl)⟩) (by assumption) ?_; (try simp only [Act.put, List.setIfInBounds_toArray, List.set_cons_zero, List.set_cons_succ]))
            refine wpAnyH_ready (rs := [4, 10]) (by kernel_rfl) (by simp) ?_
            refine AllReadyH.cons (o := { dst := some 35, op := _, type := _, pos := _, after := _, guard := _ }) rfl (fun K hK => ?_) (AllReadyH.cons (o := { dst := some 7, op := _, type := _, pos := _, after := _, guard := _ }) rfl (fun K hK => ?_) AllReadyH.nil)
            · go_simp; refine (num24_agg r1 _).mono ?_; rintro e w6 ⟨rfl, hb⟩; have hS6 := ext_under hS0 (Nat.le_refl _) hb; refine hK.out _ _ hS6 (fun hHeld => ?_); clear hK K; try simp only [Act.put, List.setIfInBounds_toArray, List.set_cons_zero, List.set_cons_succ]
              refine wpAnyH_ready (rs := [8, 10]) (by kernel_rfl) (by simp) ?_
              refine AllReadyH.cons (o := { dst := some 39, op := _, type := _, pos := _, after := _, guard := _ }) rfl (fun K hK => ?_) (AllReadyH.cons (o := { dst := some 7, op := _, type := _, pos := _, after := _, guard := _ }) rfl (fun K hK => ?_) AllReadyH.nil)
              · go_simp; refine (num24_agg r2 _).mono ?_; rintro e w7 ⟨rfl, hb⟩; have hS7 := ext_under hS6 (Nat.le_refl _) hb; refine hK.out _ _ hS7 (fun hHeld => ?_); clear hK K; try simp only [Act.put, List.setIfInBounds_toArray, List.set_cons_zero, List.set_cons_succ]
                (refine wpAnyH_take (i := 9) (oi := { dst := some 40, op := _, type := _, pos := _, after := _, guard := _ }) (v := ?_) rfl (by kernel_rfl) (by kernel_rfl) (by kernel_rfl) (fun _ _ _ h => h) (Or.inl ⟨by kernel_rfl, (by intro W' hS'; obtain ⟨hq1, hq2⟩ := bcellM hS'; go_simp; try with_reducible rfl)⟩) (by assumption) ?_; (try simp only [Act.put, List.setIfInBounds_toArray, List.set_cons_zero, List.set_cons_succ]))
                refine wpAnyH_ready (rs := [10]) (by kernel_rfl) (by simp) ?_
                refine AllReadyH.cons (o := { dst := some 7, op := _, type := _, pos := _, after := _, guard := _ }) rfl (fun K hK => ?_) AllReadyH.nil
                go_simp; refine hK.out _ _ (Below.alloc hS7 (Below.size hS7) _) (fun hHeld => ?_); clear hK K; try simp only [Act.put, List.setIfInBounds_toArray, List.set_cons_zero, List.set_cons_succ]
                have hsz := hS7.size
                refine wpAnyH_ready (rs := [11]) (by kernel_rfl) (by simp) ?_; refine AllReadyH.cons (o := { dst := none, op := _, type := _, pos := _, after := _, guard := _ }) rfl (fun K hK => ?_) AllReadyH.nil; refine Eq.mpr (if_pos (by kernel_rfl)) ?_; refine wp_store_msg (.tmp 7) (.tmp 40) rfl (⟨⟨4, numR r1.v, numR r2.v, 0, 0, false, []⟩, none, 0, 0⟩ : Mr) rfl rfl (Blk.new w7 _ _) fun w9 hk9 hc9 => ?_; have HG9 := Lib.hid (msg_at hHeld (by omega) hk9 hc9); refine hK.out _ _ HG9.out.2.1 (fun hHeld => ?_); clear hK K; try simp only [Act.put, List.setIfInBounds_toArray, List.set_cons_zero, List.set_cons_succ]; refine wpAnyH_done (by kernel_rfl) ?_ _; go_wp2_with fail; go_meet; exact ⟨_, rfl, HG9⟩
              · go_simp; refine hK.out _ _ (Below.alloc hS6 (Below.size hS6) _) (fun hHeld => ?_); clear hK K; try simp only [Act.put, List.setIfInBounds_toArray, List.set_cons_zero, List.set_cons_succ]
                refine wpAnyH_ready (rs := [8]) (by kernel_rfl) (by simp) ?_
                refine AllReadyH.cons (o := { dst := some 39, op := _, type := _, pos := _, after := _, guard := _ }) rfl (fun K hK => ?_) AllReadyH.nil
                have hA6 := hHeld
                have hsz := hS6.size
                go_simp; refine (num24_agg r2 _).mono ?_; rintro e w7 ⟨rfl, hb⟩; have hS7 := ext_under hA6 (Nat.le_refl _) hb; refine hK.out _ _ hS7 (fun hHeld => ?_); clear hK K; try simp only [Act.put, List.setIfInBounds_toArray, List.set_cons_zero, List.set_cons_succ]
                (refine wpAnyH_take (i := 9) (oi := { dst := some 40, op := _, type := _, pos := _, after := _, guard := _ }) (v := ?_) rfl (by kernel_rfl) (by kernel_rfl) (by kernel_rfl) (fun _ _ _ h => h) (Or.inl ⟨by kernel_rfl, (by intro W' hS'; obtain ⟨hq1, hq2⟩ := bcellM hS'; go_simp; try with_reducible rfl)⟩) (by assumption) ?_; (try simp only [Act.put, List.setIfInBounds_toArray, List.set_cons_zero, List.set_cons_succ]))
                refine wpAnyH_ready (rs := [11]) (by kernel_rfl) (by simp) ?_; refine AllReadyH.cons (o := { dst := none, op := _, type := _, pos := _, after := _, guard := _ }) rfl (fun K hK => ?_) AllReadyH.nil; refine Eq.mpr (if_pos (by kernel_rfl)) ?_; refine wp_store_msg (.tmp 7) (.tmp 40) rfl (⟨⟨4, numR r1.v, numR r2.v, 0, 0, false, []⟩, none, 0, 0⟩ : Mr) rfl rfl ((Blk.new w6 _ _).ext hb) fun w9 hk9 hc9 => ?_; have HG9 := Lib.hid (msg_at hS7 (by omega) hk9 hc9); refine hK.out _ _ HG9.out.2.1 (fun hHeld => ?_); clear hK K; try simp only [Act.put, List.setIfInBounds_toArray, List.set_cons_zero, List.set_cons_succ]; refine wpAnyH_done (by kernel_rfl) ?_ _; go_wp2_with fail; go_meet; exact ⟨_, rfl, HG9⟩
            · go_simp; refine hK.out _ _ (Below.alloc hS0 (Below.size hS0) _) (fun hHeld => ?_); clear hK K; try simp only [Act.put, List.setIfInBounds_toArray, List.set_cons_zero, List.set_cons_succ]
              refine wpAnyH_ready (rs := [4]) (by kernel_rfl) (by simp) ?_
              refine AllReadyH.cons (o := { dst := some 35, op := _, type := _, pos := _, after := _, guard := _ }) rfl (fun K hK => ?_) AllReadyH.nil
              have hA5 := hHeld
              go_simp; refine (num24_agg r1 _).mono ?_; rintro e w6 ⟨rfl, hb⟩; have hS6 := ext_under hA5 (Nat.le_refl _) hb; refine hK.out _ _ hS6 (fun hHeld => ?_); clear hK K; try simp only [Act.put, List.setIfInBounds_toArray, List.set_cons_zero, List.set_cons_succ]
              have hk6 := Lib.hid ((Blk.new w5.drew _ _).ext hb)
              clear hb
              refine wpAnyH_ready (rs := [8]) (by kernel_rfl) (by simp) ?_
              refine AllReadyH.cons (o := { dst := some 39, op := _, type := _, pos := _, after := _, guard := _ }) rfl (fun K hK => ?_) AllReadyH.nil
              go_simp; refine (num24_agg r2 _).mono ?_; rintro e w7 ⟨rfl, hb⟩; have hS7 := ext_under hS6 (Nat.le_refl _) hb; refine hK.out _ _ hS7 (fun hHeld => ?_); clear hK K; try simp only [Act.put, List.setIfInBounds_toArray, List.set_cons_zero, List.set_cons_succ]
              (refine wpAnyH_take (i := 9) (oi := { dst := some 40, op := _, type := _, pos := _, after := _, guard := _ }) (v := ?_) rfl (by kernel_rfl) (by kernel_rfl) (by kernel_rfl) (fun _ _ _ h => h) (Or.inl ⟨by kernel_rfl, (by intro W' hS'; obtain ⟨hq1, hq2⟩ := bcellM hS'; go_simp; try with_reducible rfl)⟩) (by assumption) ?_; (try simp only [Act.put, List.setIfInBounds_toArray, List.set_cons_zero, List.set_cons_succ]))
              refine wpAnyH_ready (rs := [11]) (by kernel_rfl) (by simp) ?_; refine AllReadyH.cons (o := { dst := none, op := _, type := _, pos := _, after := _, guard := _ }) rfl (fun K hK => ?_) AllReadyH.nil; refine Eq.mpr (if_pos (by kernel_rfl)) ?_; refine wp_store_msg (.tmp 7) (.tmp 40) rfl (⟨⟨4, numR r1.v, numR r2.v, 0, 0, false, []⟩, none, 0, 0⟩ : Mr) rfl rfl (hk6.out.ext hb) fun w9 hk9 hc9 => ?_; have HG9 := Lib.hid (msg_at hS7 (by omega) hk9 hc9); refine hK.out _ _ HG9.out.2.1 (fun hHeld => ?_); clear hK K; try simp only [Act.put, List.setIfInBounds_toArray, List.set_cons_zero, List.set_cons_succ]; refine wpAnyH_done (by kernel_rfl) ?_ _; go_wp2_with fail; go_meet; exact ⟨_, rfl, HG9⟩
          case rest =>
            obtain ⟨g, rfl, hG⟩ := hcut
            have hgw : w.heap.size < g := by have h1 := (Array.getElem?_eq_some_iff.1 hP.out.box).1; have h2 := HW5.out.1.size; have h3 := hG.out.2.2; omega
            clear x00 x01 x02 x03 x04 x10 x11 x12 x13 x14 x20 x21 x22 x23 x24 f1 f2
            obtain ⟨vb', vo', hA', _, x30, x31, x32, x33, x34⟩ := Wr.at_ hsl5 (j := 3) (r := r3) rfl; obtain ⟨rfl, rfl⟩ : vb = vb' ∧ vo = vo' := (by injection hA' with h; injection h with h1 h2; exact ⟨h1, h2⟩); obtain ⟨vb', vo', hA', _, _, _, x42, _⟩ := Wr.at_ hsl5 (j := 4) (r := r4) rfl; obtain ⟨rfl, rfl⟩ : vb = vb' ∧ vo = vo' := (by injection hA' with h; injection h with h1 h2; exact ⟨h1, h2⟩); obtain ⟨vb', vo', hA', _, _, _, _, x53, _⟩ := Wr.at_ hsl5 (j := 5) (r := r5) rfl; obtain ⟨rfl, rfl⟩ : vb = vb' ∧ vo = vo' := (by injection hA' with h; injection h with h1 h2; exact ⟨h1, h2⟩); simp only [Nat.reduceMul, Nat.add_assoc, Nat.reduceAdd] at x42 x53; simp only [Nat.reduceMul, Nat.add_assoc, Nat.reduceAdd] at x30 x31 x32 x33 x34; obtain ⟨hq1, _⟩ := bcellM hG.out.2.1; have y30 := (hq1 vb _ hvb).trans x30; have y31 := (hq1 vb _ hvb).trans x31; have y32 := (hq1 vb _ hvb).trans x32; have y33 := (hq1 vb _ hvb).trans x33; have y34 := (hq1 vb _ hvb).trans x34; clear hq1 hA'; have hok5 := Lib.hid (And.intro (HW5.out.2.2.ok r5 (by simp)) (HW5.out.2.2.from' r5 (by simp))); have hvg : vb ≠ g := (by have := hG.out.2.2; omega); go_upto_region 16 with (go_at_call 63; refine (num24_agg r3 _).mono ?_; rintro e w6 ⟨rfl, hb6⟩; have HG6 := Lib.hid (hG.out.ext hb6); clear hb6; obtain ⟨hq6, _⟩ := bcellM HG6.out.2.1; have z42 := (hq6 vb _ hvb).trans x42; have z53 := (hq6 vb _ hvb).trans x53; clear hq6; have c4 := HG6.out.1.cell 4; have f4 := HG6.out.1.free 4; have c5 := HG6.out.1.cell 5; have f5 := HG6.out.1.free 5; have c6 := HG6.out.1.cell 6; have f6 := HG6.out.1.free 6; simp only [Mr.cells, List.getElem?_toArray, List.getElem?_cons_zero, List.getElem?_cons_succ] at c4 c5 c6); have HG8 := Lib.hid (((HG6.out.set 4 (.int .i64 (numR r3.v)) (r' := ⟨⟨4, numR r1.v, numR r2.v, 0, numR r3.v, false, []⟩, none, 0, 0⟩) rfl).set 5 (.bool r4.v.f) (r' := ⟨⟨4, numR r1.v, numR r2.v, 0, numR r3.v, r4.v.f, []⟩, none, 0, 0⟩) rfl).set 6 (.slice r5.bA r5.bn r5.bc) (r' := ⟨⟨4, numR r1.v, numR r2.v, 0, numR r3.v, r4.v.f, r5.v.b⟩, r5.bA, r5.bn, r5.bc⟩) rfl); clear c4 f4 c5 f5 c6 f6 z42 z53 x42 x53 y30 y31 y32 y33 y34 x30 x31 x32 x33 x34 HG6; generalize ((w6.setCell ⟨g, 4, none⟩ (.int .i64 (numR r3.v))).setCell ⟨g, 5, none⟩ (.bool r4.v.f)).setCell ⟨g, 6, none⟩ (.slice r5.bA r5.bn r5.bc) = W8 at *; have hbl5 := hok5.out.1.b.len; have HL5 := Lib.hid hbl5; clear hbl5; have HO8 : Hid (OwnA W8 5 1 encB (.slice r5.bA r5.bn r5.bc) r5.v.b ∧ ∀ k, (Value.slice r5.bA r5.bn r5.bc).ownBlock = some k → w.heap.size < k) := (by exact ⟨hok5.out.1.b.ext HG8.out.2.1, fun k hk => by have h1 := hok5.out.2.1 k (by revert hk; cases r5.bA <;> simp [Value.ownBlock, blockOf]); have h2 := (Array.getElem?_eq_some_iff.1 hP.out.box).1; omega⟩)
            have k0 := HG8.out.1.cell 0
            have k1 := HG8.out.1.cell 1
            have k2 := HG8.out.1.cell 2
            have k3 := HG8.out.1.cell 3
            have k4 := HG8.out.1.cell 4
            have k5 := HG8.out.1.cell 5
            have k6 := HG8.out.1.cell 6
            simp only [Mr.cells, List.getElem?_toArray, List.getElem?_cons_zero, List.getElem?_cons_succ] at k0 k1 k2 k3 k4 k5 k6
            have HT2 : Hid (tryK l 4 = if mayB (⟨4, numR r1.v, numR r2.v, 0, numR r3.v, r4.v.f, r5.v.b⟩ : Ms) = true then some (⟨4, numR r1.v, numR r2.v, 0, numR r3.v, r4.v.f, r5.v.b⟩ : Ms) else none) := HT.out
            clear HT
            cases hmm : mayB (⟨4, numR r1.v, numR r2.v, 0, numR r3.v, r4.v.f, r5.v.b⟩ : Ms) with
            | false =>
              have HM := Lib.hid fun W => rmay24_agg ⟨(⟨4, numR r1.v, numR r2.v, 0, numR r3.v, r4.v.f, r5.v.b⟩ : Ms), r5.bA, r5.bn, r5.bc⟩ false W (show 4 ≤ 255 by decide) HL5.out hmm
              have hno : Hid (tryK l 4 = none) := by rw [Hid, HT2.out, hmm]; rfl
              clear hmm HT2
              go_wp2_with (go_at_call 34; refine (HM.out _).mono ?_; rintro e w9 ⟨rfl, hb9⟩)
              go_roundg (gk - 1)
              case measure => omega
              case rel => exact ⟨4 + 1, rfl, by omega, by omega, by omega, hP.out.next hno.out (ext_under (ext_under HW5.out.1 (Nat.le_refl _) HG8.out.2.1) (Nat.le_refl _) hb9)⟩
            | true =>
              have HM := Lib.hid fun W => rmay24_agg ⟨(⟨4, numR r1.v, numR r2.v, 0, numR r3.v, r4.v.f, r5.v.b⟩ : Ms), r5.bA, r5.bn, r5.bc⟩ true W (show 4 ≤ 255 by decide) HL5.out hmm
              have hpm : Hid (parseM l = ((⟨4, numR r1.v, numR r2.v, 0, numR r3.v, r4.v.f, r5.v.b⟩ : Ms), 0)) := try_parse (kd := 4) (by rw [HT2.out, hmm]; rfl)
              clear hmm HT2
              go_wp2_with (first | (go_at_call 34; refine (HM.out _).mono ?_; rintro e w9 ⟨rfl, hb9⟩; have HG9 := Lib.hid (HG8.out.1.ext hb9); have HB9 := up_no (up_no (up_no ⟨hP.out.box, hP.out.be⟩ HW5.out.1).out HG8.out.2.1).out hb9; have HO9 := Lib.hid (HO8.out.1.ext hb9); clear hb9 k0 k1 k2 k3 k4 k5 k6; have m0 := HG9.out.cell 0; have m1 := HG9.out.cell 1; have m2 := HG9.out.cell 2; have m3 := HG9.out.cell 3; have m4 := HG9.out.cell 4; have m5 := HG9.out.cell 5; have m6 := HG9.out.cell 6; simp only [Mr.cells, List.getElem?_toArray, List.getElem?_cons_zero, List.getElem?_cons_succ] at m0 m1 m2 m3 m4 m5 m6) | (with_reducible refine wpList_store_row rfl 48 (.tmp 2) (.tmp 75) rfl _ _ rfl rfl 48 _ HB9.out.1 (zM ⟨(⟨4, numR r1.v, numR r2.v, 0, numR r3.v, r4.v.f, r5.v.b⟩ : Ms), r5.bA, r5.bn, r5.bc⟩) rfl (one7 _ _ _ _ _ _ _ _ _) ?_))
              rw [hpm.out]
              exact bodyPost_ret (v := .tuple #[(⟨(⟨4, numR r1.v, numR r2.v, 0, numR r3.v, r4.v.f, r5.v.b⟩ : Ms), r5.bA, r5.bn, r5.bc⟩ : Mr).agg, .int .i64 0]) (results_cell_tmp Try.results28 rfl rfl (mres _ _ ⟨(⟨4, numR r1.v, numR r2.v, 0, numR r3.v, r4.v.f, r5.v.b⟩ : Ms), r5.bA, r5.bn, r5.bc⟩ (setRow_heap _ _ _ _ _ _ HB9.out.1))) rfl ⟨below_setRow HB9.out.2 (Nat.le_refl _) _, ⟨(⟨4, numR r1.v, numR r2.v, 0, numR r3.v, r4.v.f, r5.v.b⟩ : Ms), r5.bA, r5.bn, r5.bc⟩, rfl, rfl, HO9.out.chg (chg_setRow _ _ _) (fun k hk => by have := HO8.out.2 k hk; omega), fun k hk => by have := HO8.out.2 k hk; omega⟩
        · have f1 : ((r0.v.n : Int) != 4) = true := by simp; omega
          have f2 : (r0.v.n != 4) = true := by simpa using hh
          have hno := Lib.hid (try_hd hk (by rw [HX.out]; rfl) hh)
          clear hh hk hlen hsc hwh
          go_wp2
          go_roundg (gk - 1)
          case measure => omega
          case rel => exact ⟨4 + 1, rfl, by omega, by omega, by omega, hP.out.next hno.out HW5.out.1⟩
      · have hno := Lib.hid (try_er hk her)
        have her2 : ((wholeP (schS (⟨false, true, true, 1, false⟩ : Kk)) l).2 != 0) = true := by simpa using her
        generalize wholeP (schS (⟨false, true, true, 1, false⟩ : Kk)) l = x at *
        obtain ⟨xs, er⟩ := x
        simp only at her2
        clear her hk
        go_wp2_with (first | (go_at_call 61; refine (hsc.out _).mono ?_; rintro e w' ⟨rfl, rfl⟩) | (go_at_call 62; refine (hwh.out _ hP.out.be).mono ?_; rintro e w5 ⟨hb5, A2, n2, c2, rs, rfl, hrs, hvo⟩; have HW5 := Lib.hid (And.intro hb5 (And.intro hrs hvo)); clear hb5 hrs hvo))
        go_roundg (gk - 1)
        case measure => omega
        case rel => exact ⟨4 + 1, rfl, by omega, by omega, by omega, hP.out.next hno.out HW5.out.1⟩
    · have hk : kkOf 5 = some (⟨false, false, false, 0, false⟩ : Kk) := rfl
      have hsc : Hid (∀ W, Calls Try.prog 61 #[.int .u8 5] W fun e w' => e = .returned (.string ⟨#[110, 110, 110]⟩) ∧ W = w') := fun W => rschema_any24 5 W (by decide)
      have hwh : Hid (∀ W, Below w.heap.size w W → Calls Try.prog 62 #[.string ⟨#[110, 110, 110]⟩, .slice A n cap] W (RetWhole W (wholeP (schS (⟨false, false, false, 0, false⟩ : Kk)) l))) := fun W h => rwhole_any ⟨#[110, 110, 110]⟩ l A n cap W (by decide) (HL.out.ext h) hn hc (by omega)
      by_cases her : (wholeP (schS (⟨false, false, false, 0, false⟩ : Kk)) l).2 = 0
      · obtain ⟨xs, hxs⟩ : ∃ xs, wholeP (schS (⟨false, false, false, 0, false⟩ : Kk)) l = (xs, 0) := ⟨(wholeP (schS (⟨false, false, false, 0, false⟩ : Kk)) l).1, Prod.ext rfl her⟩
        have hlen := whole_len her
        rw [hxs] at hwh hlen
        have HX := Lib.hid hxs
        clear her hxs
        go_upto_region 5 with (first | (go_at_call 61; refine (hsc.out _).mono ?_; rintro e w' ⟨rfl, rfl⟩) | (go_at_call 62; refine (hwh.out _ hP.out.be).mono ?_; rintro e w5 ⟨hb5, A2, n2, c2, rs, rfl, hrs, hvo⟩; have HW5 := Lib.hid (And.intro hb5 (And.intro hrs hvo)); clear hb5 hrs hvo))
        obtain ⟨r0, r1, r2, rfl⟩ := len3 (by have := congrArg List.length HW5.out.2.1; rw [List.length_map] at this; rw [this]; exact hlen)
        have hxe := HW5.out.2.1
        subst hxe
        have hn2 : n2 = _ := HW5.out.2.2.own.len
        subst hn2
        have hsl5 := HW5.out.2.2.own.sl Wr.cells_len
        obtain ⟨vb, vo, rfl, hvb, x00, x01, x02, x03, x04⟩ := Wr.at_ hsl5 (j := 0) (r := r0) rfl
        obtain ⟨vb', vo', hA', _, x10, x11, x12, x13, x14⟩ := Wr.at_ hsl5 (j := 1) (r := r1) rfl
        obtain ⟨rfl, rfl⟩ : vb = vb' ∧ vo = vo' := by injection hA' with h; injection h with h1 h2; exact ⟨h1, h2⟩
        obtain ⟨vb', vo', hA', _, x20, x21, x22, x23, x24⟩ := Wr.at_ hsl5 (j := 2) (r := r2) rfl
        obtain ⟨rfl, rfl⟩ : vb = vb' ∧ vo = vo' := by injection hA' with h; injection h with h1 h2; exact ⟨h1, h2⟩
        simp only [Nat.zero_mul, Nat.one_mul, Nat.reduceMul, Nat.add_zero, Nat.add_assoc, Nat.reduceAdd] at x00 x01 x02 x03 x04 x10 x11 x12 x13 x14 x20 x21 x22 x23 x24
        clear hA'
        by_cases hh : r0.v.n = 5
        · have f1 : ((r0.v.n : Int) != 5) = false := by rw [hh]; rfl
          have f2 : (r0.v.n != 5) = false := by rw [hh]; rfl
          have HT := Lib.hid (try_is hk HX.out hh)
          have HH := Lib.hid hh
          clear hh hk hlen hsc hwh
          go_upto_region 6 with fail
          go_cut [7] (fun s7 wx => ∃ g, s7 = .pointer (some ⟨g, 0, none⟩) ∧ Hid (MsgAt w5 wx g ⟨⟨5, numR r1.v, numR r2.v, 0, 0, false, []⟩, none, 0, 0⟩))
          case first =>
            have hS0 : Below w5.heap.size w5 w5.drew := (Below.refl _ _).drew
            refine wp_region_held_drew (S := fun w' => Below w5.heap.size w5 w') (by kernel_rfl) hS0 (fun hHeld => ?_)
            try simp only [Act.put, List.setIfInBounds_toArray, List.set_cons_zero, List.set_cons_succ]
            (refine wpAnyH_take (i := 0) (oi := { dst := some 31, op := _, type := _, pos := _, after := _, guard := _ }) (v := ?_) rfl (by kernel_rfl) (by kernel_rfl) (by kernel_rfl) (fun _ _ _ h => h) (Or.inl ⟨by kernel_rfl, (by intro W' hS'; obtain ⟨hq1, hq2⟩ := bcellM hS'; go_simp; try with_reducible rfl)⟩) (by assumption) ?_; (try simp only [Act.put, List.setIfInBounds_toArray, List.set_cons_zero, List.set_cons_succ]))
            (refine wpAnyH_take (i := 1) (oi := { dst := some 32, op := _, type := _, pos := _, after := _, guard := _ }) (v := ?_) rfl (by kernel_rfl) (by kernel_rfl) (by kernel_rfl) (fun _ _ _ h => h) (Or.inl ⟨by kernel_rfl, (by intro W' hS'; obtain ⟨hq1, hq2⟩ := bcellM hS'; go_simp; try with_reducible rfl)⟩) (by assumption) ?_; (try simp only [Act.put, List.setIfInBounds_toArray, List.set_cons_zero, List.set_cons_succ]))
            (refine wpAnyH_take (i := 2) (oi := { dst := some 33, op := _, type := _, pos := _, after := _, guard := _ }) (v := ?_) rfl (by kernel_rfl) (by kernel_rfl) (by kernel_rfl) (fun _ _ _ h => h) (Or.inl ⟨by kernel_rfl, (by intro W' hS'; obtain ⟨hq1, hq2⟩ := bcellM hS'; go_simp; try with_reducible rfl)⟩) (by assumption) ?_; (try simp only [Act.put, List.setIfInBounds_toArray, List.set_cons_zero, List.set_cons_succ]))
            (refine wpAnyH_take (i := 3) (oi := { dst := some 34, op := _, type := _, pos := _, after := _, guard := _ }) (v := ?_) rfl (by kernel_rfl) (by kernel_rfl) (by kernel_rfl) (fun _ _ _ h => h) (Or.inl ⟨by kernel_rfl, (by intro W' hS'; obtain ⟨hq1, hq2⟩ := bcellM hS'; go_simp; try with_reducible rfl)⟩) (by assumption) ?_; (try simp only [Act.put, List.setIfInBounds_toArray, List.set_cons_zero, List.set_cons_succ]))
            (refine wpAnyH_take (i := 5) (oi := { dst := some 36, op := _, type := _, pos := _, after := _, guard := _ }) (v := ?_) rfl (by kernel_rfl) (by kernel_rfl) (by kernel_rfl) (fun _ _ _ h => h) (Or.inl ⟨by kernel_rfl, (by intro W' hS'; obtain ⟨hq1, hq2⟩ := bcellM hS'; go_simp; try with_reducible rfl)⟩) (by assumption) ?_; (try simp only [Act.put, List.setIfInBounds_toArray, List.set_cons_zero, List.set_cons_succ]))
            (refine wpAnyH_take (i := 6) (oi := { dst := some 37, op := _, type := _, pos := _, after := _, guard := _ }) (v := ?_) rfl (by kernel_rfl) (by kernel_rfl) (by kernel_rfl) (fun _ _ _ h => h) (Or.inl ⟨by kernel_rfl, (by intro W' hS'; obtain ⟨hq1, hq2⟩ := bcellM hS'; go_simp; try with_reducible rfl)⟩) (by assumption) ?_; (try simp only [Act.put, List.setIfInBounds_toArray, List.set_cons_zero, List.set_cons_succ]))
            (refine wpAnyH_take (i := 7) (oi := { dst := some 38, op := _, type := _, pos := _, after := _, guard := _ }) (v := ?_) rfl (by kernel_rfl) (by kernel_rfl) (by kernel_rfl) (fun _ _ _ h => h) (Or.inl ⟨by kernel_rfl, (by intro W' hS'; obtain ⟨hq1, hq2⟩ := bcellM hS'; go_simp; try with_reducible rfl)⟩) (by assumption) ?_; (try simp only [Act.put, List.setIfInBounds_toArray, List.set_cons_zero, List.set_cons_succ]))
            refine wpAnyH_ready (rs := [4, 10]) (by kernel_rfl) (by simp) ?_
            refine AllReadyH.cons (o := { dst := some 35, op := _, type := _, pos := _, after := _, guard := _ }) rfl (fun K hK => ?_) (AllReadyH.cons (o := { dst := some 7, op := _, type := _, pos := _, after := _, guard := _ }) rfl (fun K hK => ?_) AllReadyH.nil)
            · go_simp; refine (num24_agg r1 _).mono ?_; rintro e w6 ⟨rfl, hb⟩; have hS6 := ext_under hS0 (Nat.le_refl _) hb; refine hK.out _ _ hS6 (fun hHeld => ?_); clear hK K; try simp only [Act.put, List.setIfInBounds_toArray, List.set_cons_zero, List.set_cons_succ]
              refine wpAnyH_ready (rs := [8, 10]) (by kernel_rfl) (by simp) ?_
              refine AllReadyH.cons (o := { dst := some 39, op := _, type := _, pos := _, after := _, guard := _ }) rfl (fun K hK => ?_) (AllReadyH.cons (o := { dst := some 7, op := _, type := _, pos := _, after := _, guard := _ }) rfl (fun K hK => ?_) AllReadyH.nil)
              · go_simp; refine (num24_agg r2 _).mono ?_; rintro e w7 ⟨rfl, hb⟩; have hS7 := ext_under hS6 (Nat.le_refl _) hb; refine hK.out _ _ hS7 (fun hHeld => ?_); clear hK K; try simp only [Act.put, List.setIfInBounds_toArray, List.set_cons_zero, List.set_cons_succ]
                (refine wpAnyH_take (i := 9) (oi := { dst := some 40, op := _, type := _, pos := _, after := _, guard := _ }) (v := ?_) rfl (by kernel_rfl) (by kernel_rfl) (by kernel_rfl) (fun _ _ _ h => h) (Or.inl ⟨by kernel_rfl, (by intro W' hS'; obtain ⟨hq1, hq2⟩ := bcellM hS'; go_simp; try with_reducible rfl)⟩) (by assumption) ?_; (try simp only [Act.put, List.setIfInBounds_toArray, List.set_cons_zero, List.set_cons_succ]))
                refine wpAnyH_ready (rs := [10]) (by kernel_rfl) (by simp) ?_
                refine AllReadyH.cons (o := { dst := some 7, op := _, type := _, pos := _, after := _, guard := _ }) rfl (fun K hK => ?_) AllReadyH.nil
                go_simp; refine hK.out _ _ (Below.alloc hS7 (Below.size hS7) _) (fun hHeld => ?_); clear hK K; try simp only [Act.put, List.setIfInBounds_toArray, List.set_cons_zero, List.set_cons_succ]
                have hsz := hS7.size
                refine wpAnyH_ready (rs := [11]) (by kernel_rfl) (by simp) ?_; refine AllReadyH.cons (o := { dst := none, op := _, type := _, pos := _, after := _, guard := _ }) rfl (fun K hK => ?_) AllReadyH.nil; refine Eq.mpr (if_pos (by kernel_rfl)) ?_; refine wp_store_msg (.tmp 7) (.tmp 40) rfl (⟨⟨5, numR r1.v, numR r2.v, 0, 0, false, []⟩, none, 0, 0⟩ : Mr) rfl rfl (Blk.new w7 _ _) fun w9 hk9 hc9 => ?_; have HG9 := Lib.hid (msg_at hHeld (by omega) hk9 hc9); refine hK.out _ _ HG9.out.2.1 (fun hHeld => ?_); clear hK K; try simp only [Act.put, List.setIfInBounds_toArray, List.set_cons_zero, List.set_cons_succ]; refine wpAnyH_done (by kernel_rfl) ?_ _; go_wp2_with fail; go_meet; exact ⟨_, rfl, HG9⟩
              · go_simp; refine hK.out _ _ (Below.alloc hS6 (Below.size hS6) _) (fun hHeld => ?_); clear hK K; try simp only [Act.put, List.setIfInBounds_toArray, List.set_cons_zero, List.set_cons_succ]
                refine wpAnyH_ready (rs := [8]) (by kernel_rfl) (by simp) ?_
                refine AllReadyH.cons (o := { dst := some 39, op := _, type := _, pos := _, after := _, guard := _ }) rfl (fun K hK => ?_) AllReadyH.nil
                have hA6 := hHeld
                have hsz := hS6.size
                go_simp; refine (num24_agg r2 _).mono ?_; rintro e w7 ⟨rfl, hb⟩; have hS7 := ext_under hA6 (Nat.le_refl _) hb; refine hK.out _ _ hS7 (fun hHeld => ?_); clear hK K; try simp only [Act.put, List.setIfInBounds_toArray, List.set_cons_zero, List.set_cons_succ]
                (refine wpAnyH_take (i := 9) (oi := { dst := some 40, op := _, type := _, pos := _, after := _, guard := _ }) (v := ?_) rfl (by kernel_rfl) (by kernel_rfl) (by kernel_rfl) (fun _ _ _ h => h) (Or.inl ⟨by kernel_rfl, (by intro W' hS'; obtain ⟨hq1, hq2⟩ := bcellM hS'; go_simp; try with_reducible rfl)⟩) (by assumption) ?_; (try simp only [Act.put, List.setIfInBounds_toArray, List.set_cons_zero, List.set_cons_succ]))
                refine wpAnyH_ready (rs := [11]) (by kernel_rfl) (by simp) ?_; refine AllReadyH.cons (o := { dst := none, op := _, type := _, pos := _, after := _, guard := _ }) rfl (fun K hK => ?_) AllReadyH.nil; refine Eq.mpr (if_pos (by kernel_rfl)) ?_; refine wp_store_msg (.tmp 7) (.tmp 40) rfl (⟨⟨5, numR r1.v, numR r2.v, 0, 0, false, []⟩, none, 0, 0⟩ : Mr) rfl rfl ((Blk.new w6 _ _).ext hb) fun w9 hk9 hc9 => ?_; have HG9 := Lib.hid (msg_at hS7 (by omega) hk9 hc9); refine hK.out _ _ HG9.out.2.1 (fun hHeld => ?_); clear hK K; try simp only [Act.put, List.setIfInBounds_toArray, List.set_cons_zero, List.set_cons_succ]; refine wpAnyH_done (by kernel_rfl) ?_ _; go_wp2_with fail; go_meet; exact ⟨_, rfl, HG9⟩
            · go_simp; refine hK.out _ _ (Below.alloc hS0 (Below.size hS0) _) (fun hHeld => ?_); clear hK K; try simp only [Act.put, List.setIfInBounds_toArray, List.set_cons_zero, List.set_cons_succ]
              refine wpAnyH_ready (rs := [4]) (by kernel_rfl) (by simp) ?_
              refine AllReadyH.cons (o := { dst := some 35, op := _, type := _, pos := _, after := _, guard := _ }) rfl (fun K hK => ?_) AllReadyH.nil
              have hA5 := hHeld
              go_simp; refine (num24_agg r1 _).mono ?_; rintro e w6 ⟨rfl, hb⟩; have hS6 := ext_under hA5 (Nat.le_refl _) hb; refine hK.out _ _ hS6 (fun hHeld => ?_); clear hK K; try simp only [Act.put, List.setIfInBounds_toArray, List.set_cons_zero, List.set_cons_succ]
              have hk6 := Lib.hid ((Blk.new w5.drew _ _).ext hb)
              clear hb
              refine wpAnyH_ready (rs := [8]) (by kernel_rfl) (by simp) ?_
              refine AllReadyH.cons (o := { dst := some 39, op := _, type := _, pos := _, after := _, guard := _ }) rfl (fun K hK => ?_) AllReadyH.nil
              go_simp; refine (num24_agg r2 _).mono ?_; rintro e w7 ⟨rfl, hb⟩; have hS7 := ext_under hS6 (Nat.le_refl _) hb; refine hK.out _ _ hS7 (fun hHeld => ?_); clear hK K; try simp only [Act.put, List.setIfInBounds_toArray, List.set_cons_zero, List.set_cons_succ]
              (refine wpAnyH_take (i := 9) (oi := { dst := some 40, op := _, type := _, pos := _, after := _, guard := _ }) (v := ?_) rfl (by kernel_rfl) (by kernel_rfl) (by kernel_rfl) (fun _ _ _ h => h) (Or.inl ⟨by kernel_rfl, (by intro W' hS'; obtain ⟨hq1, hq2⟩ := bcellM hS'; go_simp; try with_reducible rfl)⟩) (by assumption) ?_; (try simp only [Act.put, List.setIfInBounds_toArray, List.set_cons_zero, List.set_cons_succ]))
              refine wpAnyH_ready (rs := [11]) (by kernel_rfl) (by simp) ?_; refine AllReadyH.cons (o := { dst := none, op := _, type := _, pos := _, after := _, guard := _ }) rfl (fun K hK => ?_) AllReadyH.nil; refine Eq.mpr (if_pos (by kernel_rfl)) ?_; refine wp_store_msg (.tmp 7) (.tmp 40) rfl (⟨⟨5, numR r1.v, numR r2.v, 0, 0, false, []⟩, none, 0, 0⟩ : Mr) rfl rfl (hk6.out.ext hb) fun w9 hk9 hc9 => ?_; have HG9 := Lib.hid (msg_at hS7 (by omega) hk9 hc9); refine hK.out _ _ HG9.out.2.1 (fun hHeld => ?_); clear hK K; try simp only [Act.put, List.setIfInBounds_toArray, List.set_cons_zero, List.set_cons_succ]; refine wpAnyH_done (by kernel_rfl) ?_ _; go_wp2_with fail; go_meet; exact ⟨_, rfl, HG9⟩
          case rest =>
            obtain ⟨g, rfl, hG⟩ := hcut
            have hgw : w.heap.size < g := by have h1 := (Array.getElem?_eq_some_iff.1 hP.out.box).1; have h2 := HW5.out.1.size; have h3 := hG.out.2.2; omega
            clear x00 x01 x02 x03 x04 x10 x11 x12 x13 x14 x20 x21 x22 x23 x24 f1 f2
            go_upto_region 16 with fail; have HG8 := hG; clear hG; generalize wc = W8 at *; have HO8 : Hid (OwnA W8 5 1 encB (.slice none 0 0) ([] : List UInt8) ∧ ∀ k, (Value.slice none 0 0).ownBlock = some k → w.heap.size < k) := nil_own
            have k0 := HG8.out.1.cell 0
            have k1 := HG8.out.1.cell 1
            have k2 := HG8.out.1.cell 2
            have k3 := HG8.out.1.cell 3
            have k4 := HG8.out.1.cell 4
            have k5 := HG8.out.1.cell 5
            have k6 := HG8.out.1.cell 6
            simp only [Mr.cells, List.getElem?_toArray, List.getElem?_cons_zero, List.getElem?_cons_succ] at k0 k1 k2 k3 k4 k5 k6
            have HT2 : Hid (tryK l 5 = if mayB (⟨5, numR r1.v, numR r2.v, 0, 0, false, []⟩ : Ms) = true then some (⟨5, numR r1.v, numR r2.v, 0, 0, false, []⟩ : Ms) else none) := HT.out
            clear HT
            cases hmm : mayB (⟨5, numR r1.v, numR r2.v, 0, 0, false, []⟩ : Ms) with
            | false =>
              have HM := Lib.hid fun W => rmay24_agg ⟨(⟨5, numR r1.v, numR r2.v, 0, 0, false, []⟩ : Ms), none, 0, 0⟩ false W (show 5 ≤ 255 by decide) rfl hmm
              have hno : Hid (tryK l 5 = none) := by rw [Hid, HT2.out, hmm]; rfl
              clear hmm HT2
              go_wp2_with (go_at_call 34; refine (HM.out _).mono ?_; rintro e w9 ⟨rfl, hb9⟩)
              go_roundg (gk - 1)
              case measure => omega
              case rel => exact ⟨5 + 1, rfl, by omega, by omega, by omega, hP.out.next hno.out (ext_under (ext_under HW5.out.1 (Nat.le_refl _) HG8.out.2.1) (Nat.le_refl _) hb9)⟩
            | true =>
              have HM := Lib.hid fun W => rmay24_agg ⟨(⟨5, numR r1.v, numR r2.v, 0, 0, false, []⟩ : Ms), none, 0, 0⟩ true W (show 5 ≤ 255 by decide) rfl hmm
              have hpm : Hid (parseM l = ((⟨5, numR r1.v, numR r2.v, 0, 0, false, []⟩ : Ms), 0)) := try_parse (kd := 5) (by rw [HT2.out, hmm]; rfl)
              clear hmm HT2
              go_wp2_with (first | (go_at_call 34; refine (HM.out _).mono ?_; rintro e w9 ⟨rfl, hb9⟩; have HG9 := Lib.hid (HG8.out.1.ext hb9); have HB9 := up_no (up_no (up_no ⟨hP.out.box, hP.out.be⟩ HW5.out.1).out HG8.out.2.1).out hb9; have HO9 := Lib.hid (HO8.out.1.ext hb9); clear hb9 k0 k1 k2 k3 k4 k5 k6; have m0 := HG9.out.cell 0; have m1 := HG9.out.cell 1; have m2 := HG9.out.cell 2; have m3 := HG9.out.cell 3; have m4 := HG9.out.cell 4; have m5 := HG9.out.cell 5; have m6 := HG9.out.cell 6; simp only [Mr.cells, List.getElem?_toArray, List.getElem?_cons_zero, List.getElem?_cons_succ] at m0 m1 m2 m3 m4 m5 m6) | (with_reducible refine wpList_store_row rfl 48 (.tmp 2) (.tmp 75) rfl _ _ rfl rfl 48 _ HB9.out.1 (zM ⟨(⟨5, numR r1.v, numR r2.v, 0, 0, false, []⟩ : Ms), none, 0, 0⟩) rfl (one7 _ _ _ _ _ _ _ _ _) ?_))
              rw [hpm.out]
              exact bodyPost_ret (v := .tuple #[(⟨(⟨5, numR r1.v, numR r2.v, 0, 0, false, []⟩ : Ms), none, 0, 0⟩ : Mr).agg, .int .i64 0]) (results_cell_tmp Try.results28 rfl rfl (mres _ _ ⟨(⟨5, numR r1.v, numR r2.v, 0, 0, false, []⟩ : Ms), none, 0, 0⟩ (setRow_heap _ _ _ _ _ _ HB9.out.1))) rfl ⟨below_setRow HB9.out.2 (Nat.le_refl _) _, ⟨(⟨5, numR r1.v, numR r2.v, 0, 0, false, []⟩ : Ms), none, 0, 0⟩, rfl, rfl, HO9.out.chg (chg_setRow _ _ _) (fun k hk => by have := HO8.out.2 k hk; omega), fun k hk => by have := HO8.out.2 k hk; omega⟩
        · have f1 : ((r0.v.n : Int) != 5) = true := by simp; omega
          have f2 : (r0.v.n != 5) = true := by simpa using hh
          have hno := Lib.hid (try_hd hk (by rw [HX.out]; rfl) hh)
          clear hh hk hlen hsc hwh
          go_wp2
          go_roundg (gk - 1)
          case measure => omega
          case rel => exact ⟨5 + 1, rfl, by omega, by omega, by omega, hP.out.next hno.out HW5.out.1⟩
      · have hno := Lib.hid (try_er hk her)
        have her2 : ((wholeP (schS (⟨false, false, false, 0, false⟩ : Kk)) l).2 != 0) = true := by simpa using her
        generalize wholeP (schS (⟨false, false, false, 0, false⟩ : Kk)) l = x at *
        obtain ⟨xs, er⟩ := x
        simp only at her2
        clear her hk
        go_wp2_with (first | (go_at_call 61; refine (hsc.out _).mono ?_; rintro e w' ⟨rfl, rfl⟩) | (go_at_call 62; refine (hwh.out _ hP.out.be).mono ?_; rintro e w5 ⟨hb5, A2, n2, c2, rs, rfl, hrs, hvo⟩; have HW5 := Lib.hid (And.intro hb5 (And.intro hrs hvo)); clear hb5 hrs hvo))
        go_roundg (gk - 1)
        case measure => omega
        case rel => exact ⟨5 + 1, rfl, by omega, by omega, by omega, hP.out.next hno.out HW5.out.1⟩
    · have hsc : Hid (∀ W, Calls Try.prog 61 #[.int .u8 6] W fun e w' => e = .returned (.string ⟨#[]⟩) ∧ W = w') := fun W => rschema_any24 6 W (by decide)
      have hpm : Hid (parseM l = (ms0, 240)) := try_none fun kd a b => hP.out.no kd a (by omega)
      have HX : Hid (wr.heap[w.heap.size]? = some (.cells #[.int .u8 0, .int .i64 0, .int .i64 0, .int .i64 0, .int .i64 0, .bool false, .slice none 0 0] 48 (0, 0))) := hP.out.box
      go_wp2_with (first | (go_at_call 61; refine (hsc.out _).mono ?_; rintro e w' ⟨rfl, rfl⟩) | (with_reducible refine wpList_store_row rfl 48 (.tmp 2) (.tmp 76) rfl _ _ rfl rfl 48 _ HX.out (zM mr0) rfl (one7 _ _ _ _ _ _ _ _ _) ?_))
      rw [hpm.out]
      exact bodyPost_ret (v := .tuple #[mr0.agg, .int .i64 240]) (results_cell_tmp Try.results28 rfl rfl (mres _ _ mr0 (setRow_heap _ _ _ _ _ _ HX.out))) rfl (RetParse.err HX.out hP.out.be)
end Go.Proofs.Ytoneechcclndaaa.Msg
