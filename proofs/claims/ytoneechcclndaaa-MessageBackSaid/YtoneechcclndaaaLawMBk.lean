/- MessageBack: a message that is printed is parsed as it was, in at most 80 bytes; bytes that are parsed are those of what they are: whatever the input, the law returns true and leaves its arguments as they were. -/
import Derived.Test.YtoneechcclndaaaMsgS
import Derived.Test.YtoneechcclndaaaMsgV
import Derived.ChangeMaps5
import Derived.Outline
import Derived.BigQuiet
import Derived.Deep.QuietTactic
import Derived.Deep.RegionWith
import Derived.Deep.RegionHeld3
import Derived.Deep.DrawnRows
import Derived.Deep.LoopGhost
import Derived.Deep.DeepCutAuto
import Derived.Laws.EntriesVeiled
namespace Go.Proofs.Ytoneechcclndaaa.lawMBk
open Go.RowKit Go.ChangeShapes Go.WideShapes Go.ChangeAt
set_option linter.unusedVariables false
set_option linter.unusedSimpArgs false
attribute [local go_sem ↓] Go.wp_at_zero Go.wp_at_succ
open Wire Word Bytes Go.Shelf Msg lawTorn

theorem box_up {w w1 w2 : World} {t : TypeId} {cs : Array Value} (h : Hid (Blk w1 w.heap.size t cs ∧ Below w.heap.size w w1 ∧ w.heap.size < w1.heap.size)) (hb : Below w1.heap.size w1 w2) : Hid (Blk w2 w.heap.size t cs ∧ Below w.heap.size w w2 ∧ w.heap.size < w2.heap.size) :=
  ⟨h.out.1.ext hb, ext_under h.out.2.1 (Nat.le_refl _) hb, by have := hb.size; have := h.out.2.2; omega⟩
theorem may_g (r : Mr) (b : Bool) (w w1 : World) (hr : r.In w) (hb : mayB r.v = b) : Calls Try.prog 35 #[r.agg] w1 fun e w' => e = .returned (.bool b) ∧ Below w1.heap.size w1 w' := may_v r b w1 hb hr.kd hr.n
theorem parse_err {b : List UInt8} (h : (parseM b).2 ≠ 0) : parseM b = (ms0, 240) := by
  unfold parseM at h ⊢
  simp only at h ⊢
  split
  · rename_i h1
    rw [if_pos h1] at h
    split
    · rfl
    · rename_i k hk
      rw [hk] at h
      simp only at h
      split
      · rename_i h2
        rw [if_pos h2] at h
        split
        · rename_i h3
          rw [if_pos h3] at h
          exact absurd rfl h
        · rfl
      · rfl
  · rfl
theorem may_len {m : Ms} (h : mayB m = true) : m.bs.length ≤ 48 ∧ m.kind ≤ 255 := by
  obtain ⟨k, hk, hm⟩ := may_kk h
  have ha := mayK_all hm
  rcases kk_cases hk with ⟨h1, rfl⟩ | ⟨h1, rfl⟩ | ⟨h1, rfl⟩ | ⟨h1, rfl⟩ | ⟨h1, rfl⟩ <;> (
    simp at ha
    have h2 := ha.2.2.2.2
    first | exact ⟨by omega, by omega⟩ | exact ⟨by rw [h2.1]; decide, by omega⟩)
theorem rd_of {w : World} {r : Mr} (ho : OwnA w 5 1 encB (.slice r.A r.n r.c) r.v.bs) (hm : r.v.bs.length ≤ 48) (hk : r.v.kind ≤ 255) : r.Rd w :=
  ⟨ho.sl encB_len, ho.len, by omega, hk⟩
theorem zM7 (r : Mr) : (#[.int .u8 0, .int .i64 0, .int .i64 0, .int .i64 0, .int .i64 0, .bool false, .slice none 0 0] : Array Value).size = (#[.int .u8 (r.v.kind : Int), .int .i64 r.v.client, .int .i64 r.v.epoch, .int .i64 r.v.width, .int .i64 r.v.seq, .bool r.v.last, .slice r.A r.n r.c] : Array Value).size := by simp
theorem same_v9 {A B : Option Addr} {n m ca cb : Nat} {l : List UInt8} (W : World) (h1 : BySl W W.heap.size A l) (h2 : BySl W W.heap.size B l) (hn : n = l.length) (hm : m = l.length) (hl : l.length ≤ 1000000) : Calls Try.prog 20 #[.slice A n ca, .slice B m cb] W fun e w' => e = .returned (.bool true) ∧ ∃ k, w' = W.drewN k := by
  have h := same_at l l A B n m ca cb W h1 h2 hn hm (by unfold maxLen; omega) (by unfold maxLen; omega)
  rwa [eqB_self] at h
set_option maxHeartbeats 8000000 in
set_option maxRecDepth 100000 in
theorem walk (r : Mr) (bs : List UInt8) (B : Option Addr) (nb cb : Nat) (w : World) (hr : r.In w) (hb : BySl w w.heap.size B bs) (hnb : Hid (nb = bs.length)) (hcb : nb ≤ cb) :
    Calls Try.prog 8 #[r.agg, .slice B nb cb] w fun e w' => e = .returned (.bool true) ∧ Below w.heap.size w w' := by
  by_cases hl : 1000 < r.n
  · have d1 : decide ((1000 : Int) < (r.n : Int)) = true := decide_eq_true (by omega)
    clear hr
    unfold Mr.agg
    go_enter Try.func8, Try.ntmps8; go_wp2_with fail; refine (Msg.awake_any _).mono ?_; rintro e w1 ⟨rfl, hb1⟩; have HB1 := box_in hb1; clear hb1; have da := (HB1.out.1).cell 0; have db := (HB1.out.1).cell 1; have dc := (HB1.out.1).cell 2; have dd := (HB1.out.1).cell 3; have de := (HB1.out.1).cell 4; have df := (HB1.out.1).cell 5; have dg := (HB1.out.1).cell 6; simp only [List.getElem?_toArray, List.getElem?_cons_zero, List.getElem?_cons_succ] at da db dc dd de df dg
    go_wp2
    go_ret
    exact ⟨rfl, HB1.out.2.1⟩
  · have d1 : decide ((1000 : Int) < (r.n : Int)) = false := decide_eq_false (by omega)
    by_cases hl2 : 1000 < nb
    · have d2 : decide ((1000 : Int) < (nb : Int)) = true := decide_eq_true (by omega)
      clear hr
      unfold Mr.agg
      go_enter Try.func8, Try.ntmps8; go_wp2_with fail; refine (Msg.awake_any _).mono ?_; rintro e w1 ⟨rfl, hb1⟩; have HB1 := box_in hb1; clear hb1; have da := (HB1.out.1).cell 0; have db := (HB1.out.1).cell 1; have dc := (HB1.out.1).cell 2; have dd := (HB1.out.1).cell 3; have de := (HB1.out.1).cell 4; have df := (HB1.out.1).cell 5; have dg := (HB1.out.1).cell 6; simp only [List.getElem?_toArray, List.getElem?_cons_zero, List.getElem?_cons_succ] at da db dc dd de df dg
      go_wp2
      go_ret
      exact ⟨rfl, HB1.out.2.1⟩
    · have d2 : decide ((1000 : Int) < (nb : Int)) = false := decide_eq_false (by omega)
      have HR : Hid (r.In w ∧ r.Rd w ∧ BySl w w.heap.size B bs) := ⟨hr, hr.rd (by omega), hb⟩
      have hn1000 : Hid (nb ≤ 1000) := by rw [Hid]; omega
      -- what the tail does: Parse of the bytes
      have hpb : Hid (∀ W, Below w.heap.size w W → Calls Try.prog 29 #[.slice B nb cb] W (RetParse W (parseM bs))) := fun W hW =>
        parse_any bs B nb cb W (HR.out.2.2.ext hW) hnb hcb (by have := hn1000.out; omega)
      clear hr hb
      cases hm : mayB r.v with
      | false =>
        have hmay := Lib.hid fun W => may_g r false w W HR.out.1 hm
        have hpr : Hid (∀ W, Below w.heap.size w W → Calls Try.prog 32 #[r.agg] W (RetPut W ([], 2))) := fun W h => by
          have h2 := print_any r W (HR.out.2.1.ext h)
          rwa [print_no hm] at h2
        clear hm
        unfold Mr.agg at hmay hpr ⊢
        go_enter Try.func8, Try.ntmps8; go_wp2_with fail; refine (Msg.awake_any _).mono ?_; rintro e w1 ⟨rfl, hb1⟩; have HB1 := box_in hb1; clear hb1; have da := (HB1.out.1).cell 0; have db := (HB1.out.1).cell 1; have dc := (HB1.out.1).cell 2; have dd := (HB1.out.1).cell 3; have de := (HB1.out.1).cell 4; have df := (HB1.out.1).cell 5; have dg := (HB1.out.1).cell 6; simp only [List.getElem?_toArray, List.getElem?_cons_zero, List.getElem?_cons_succ] at da db dc dd de df dg
        go_wp2_with (first | (go_at_call 32; refine (hpr.out _ HB1.out.2.1).mono ?_; rintro e w3 ⟨hb3, A1, n1, c1, rfl, ho3, hf3⟩; have HB3 := box_up HB1 hb3; clear hb3 da db dc dd de df dg; have da := (HB3.out.1).cell 0; have db := (HB3.out.1).cell 1; have dc := (HB3.out.1).cell 2; have dd := (HB3.out.1).cell 3; have de := (HB3.out.1).cell 4; have df := (HB3.out.1).cell 5; have dg := (HB3.out.1).cell 6; simp only [List.getElem?_toArray, List.getElem?_cons_zero, List.getElem?_cons_succ] at da db dc dd de df dg) | (go_at_call 35; refine (hmay.out _).mono ?_; rintro e w4 ⟨rfl, hb4⟩; have HB4 := box_up HB3 hb4; clear hb4 da db dc dd de df dg; have HW := Lib.hid HB4.out.2.1))
        have HW9 : Hid (Below w.heap.size w w4) := HW
        generalize w4 = W9 at *
        try simp only
        by_cases hpe : (parseM bs).2 = 0
        · obtain ⟨o, ho⟩ : ∃ o, parseM bs = (o, 0) := ⟨(parseM bs).1, by rw [← hpe]⟩
          have hpp := print_parse ho
          have hml := may_len hpp.1
          have HPO := Lib.hid hpp.2
          have hca := hpb.out W9 HW9.out
          rw [ho] at hca
          clear ho hpe
          refine hca.mono ?_; rintro e wA ⟨hbA, rA, rfl, hrA, hoA, hfA⟩
          have HRD : Hid (rA.Rd wA ∧ Below w.heap.size w wA) := ⟨rd_of hoA (by rw [hrA]; exact hml.1) (by rw [hrA]; exact hml.2), ext_under HW9.out (Nat.le_refl _) hbA⟩
          have hprA := Lib.hid (fun W (hW : Below wA.heap.size wA W) => print_any rA W (HRD.out.1.ext hW))
          rw [hrA] at hprA
          simp only at hprA
          rw [HPO.out] at hprA
          clear hca hbA hoA hfA hpp hml hrA
          unfold Mr.agg at hprA ⊢
          simp only
          have hbx := below_1 wA (.cells #[.int .u8 (rA.v.kind : Int), .int .i64 rA.v.client, .int .i64 rA.v.epoch, .int .i64 rA.v.width, .int .i64 rA.v.seq, .bool rA.v.last, .slice rA.A rA.n rA.c] 48)
          have HBX := Lib.hid hbx
          clear hbx
          go_wp2_with (first | (with_reducible refine wpList_store_new _ rfl 48 (.tmp 9) (.tmp 57) rfl _ _ rfl rfl (zM rA) (zM7 rA) (one7 _ _ _ _ _ _ _ _ _) ?_) | (go_at_call 32; refine (hprA.out _ HBX.out).mono ?_; rintro e wB ⟨hbB, AB, nB, cB, rfl, hoB, hfB⟩; have HBB : Hid (Below w.heap.size w wB ∧ BySl wB wB.heap.size B bs ∧ BySl wB wB.heap.size AB bs ∧ nB = bs.length) := ⟨ext_under (ext_under HRD.out.2 (Nat.le_refl _) HBX.out) (Nat.le_refl _) hbB, HR.out.2.2.ext (ext_under (ext_under HRD.out.2 (Nat.le_refl _) HBX.out) (Nat.le_refl _) hbB), hoB.sl encB_len, hoB.len⟩; clear hbB hoB hfB))
          refine (same_v9 wB HBB.out.2.2.1 HBB.out.2.1 HBB.out.2.2.2 hnb.out (by have := hn1000.out; have := hnb.out; omega)).mono ?_; rintro e wC ⟨rfl, kC, rfl⟩
          go_wp2
          go_ret
          exact ⟨rfl, bdrewN HBB.out.1 kC⟩
        · have hca := hpb.out W9 HW9.out
          rw [parse_err hpe] at hca
          clear hpe
          refine hca.mono ?_; rintro e wA ⟨hbA, rA, rfl, hrA, hoA, hfA⟩
          try simp only at hrA
          have hbw := ext_under HW9.out (Nat.le_refl _) hbA
          have HBX : Hid (Below w.heap.size w (wA.alloc (.cells #[.int .u8 (rA.v.kind : Int), .int .i64 rA.v.client, .int .i64 rA.v.epoch, .int .i64 rA.v.width, .int .i64 rA.v.seq, .bool rA.v.last, .slice rA.A rA.n rA.c] 48))) := hbw.alloc hbw.size _
          have hrd : rA.Rd wA := rd_of hoA (by rw [hrA]; decide) (by rw [hrA]; decide)
          have hsm := Lib.hid (fun W (hW : Below wA.heap.size wA W) => Same_v rA mr0 true W (hrd.ext hW) (nil_rd _ ms0 rfl (by decide)) (by rw [hrA]; exact sameM_self ms0))
          clear hca hbA hoA hfA hrA hrd hbw
          unfold Mr.agg mr0 ms0 at hsm
          unfold Mr.agg
          simp only at hsm ⊢
          go_wp2_with (first | (with_reducible refine wpList_store_new _ rfl 48 (.tmp 9) (.tmp 57) rfl _ _ rfl rfl (zM rA) (zM7 rA) (one7 _ _ _ _ _ _ _ _ _) ?_) | (go_at_call 37; refine (hsm.out _ (below_1 _ _)).mono ?_; rintro e wB ⟨rfl, hbB⟩))
          go_ret
          exact ⟨rfl, ext_under HBX.out (Nat.le_refl _) hbB⟩
      | true =>
        have hmay := Lib.hid fun W => may_g r true w W HR.out.1 hm
        obtain ⟨p, hp⟩ : ∃ p, p = (printM r.v).1 := ⟨_, rfl⟩
        have hp2 : printM r.v = (p, 0) := by obtain ⟨k, _, _, h⟩ := print_ok hm; rw [hp, h]
        have HP : Hid (p.length ≤ 80) := by rw [hp]; exact print_80 hm
        have H1 : Hid (parseM p = (r.v, 0)) := by rw [Hid, hp]; exact parse_print hm
        have HM := Lib.hid (may_len hm)
        have hpr : Hid (∀ W, Below w.heap.size w W → Calls Try.prog 32 #[r.agg] W (RetPut W (p, 0))) := fun W h => by
          have h2 := print_any r W (HR.out.2.1.ext h)
          rwa [hp2] at h2
        have HSM := Lib.hid (fun (q : Mr) W (hW : Below w.heap.size w W) (hq : q.Rd W) (hv : q.v = r.v) => Same_v r q true W (HR.out.2.1.ext hW) hq (by rw [hv]; exact sameM_self r.v))
        clear hm hp hp2
        unfold Mr.agg at hmay hpr HSM ⊢
        go_enter Try.func8, Try.ntmps8; go_wp2_with fail; refine (Msg.awake_any _).mono ?_; rintro e w1 ⟨rfl, hb1⟩; have HB1 := box_in hb1; clear hb1; have da := (HB1.out.1).cell 0; have db := (HB1.out.1).cell 1; have dc := (HB1.out.1).cell 2; have dd := (HB1.out.1).cell 3; have de := (HB1.out.1).cell 4; have df := (HB1.out.1).cell 5; have dg := (HB1.out.1).cell 6; simp only [List.getElem?_toArray, List.getElem?_cons_zero, List.getElem?_cons_succ] at da db dc dd de df dg
        go_wp2_with (first | (go_at_call 32; refine (hpr.out _ HB1.out.2.1).mono ?_; rintro e w3 ⟨hb3, A1, n1, c1, rfl, ho3, hf3⟩; have HB3 := box_up HB1 hb3; have HO3 := Lib.hid ho3; clear hb3 ho3 hf3 da db dc dd de df dg; have da := (HB3.out.1).cell 0; have db := (HB3.out.1).cell 1; have dc := (HB3.out.1).cell 2; have dd := (HB3.out.1).cell 3; have de := (HB3.out.1).cell 4; have df := (HB3.out.1).cell 5; have dg := (HB3.out.1).cell 6; simp only [List.getElem?_toArray, List.getElem?_cons_zero, List.getElem?_cons_succ] at da db dc dd de df dg) | (go_at_call 35; refine (hmay.out _).mono ?_; rintro e w4 ⟨rfl, hb4⟩; have HB4 := box_up HB3 hb4; have HO4 := Lib.hid (HO3.out.ext hb4); clear hb4 da db dc dd de df dg; have da := (HB4.out.1).cell 0; have db := (HB4.out.1).cell 1; have dc := (HB4.out.1).cell 2; have dd := (HB4.out.1).cell 3; have de := (HB4.out.1).cell 4; have df := (HB4.out.1).cell 5; have dg := (HB4.out.1).cell 6; simp only [List.getElem?_toArray, List.getElem?_cons_zero, List.getElem?_cons_succ] at da db dc dd de df dg))
        have hn1 := HO4.out.len
        have h80 := HP.out
        have hca := parse_any p A1 n1 c1 w4 (HO4.out.sl encB_len) hn1 (by obtain ⟨A0, n0, c0, hv, _, hle, _⟩ := HO4.out.form; cases hv; exact hle) (by omega)
        rw [H1.out] at hca
        have d80 : decide ((80 : Int) < (n1 : Int)) = false := decide_eq_false (by omega)
        clear hn1 h80
        refine hca.mono ?_; rintro e wA ⟨hbA, rA, rfl, hrA, hoA, hfA⟩
        try simp only at hrA
        have HBA := box_up HB4 hbA
        have hrd : rA.Rd wA := rd_of hoA (by rw [hrA]; exact HM.out.1) (by rw [hrA]; exact HM.out.2)
        have HB5 : Hid (Blk (wA.alloc (.cells #[.int .u8 (rA.v.kind : Int), .int .i64 rA.v.client, .int .i64 rA.v.epoch, .int .i64 rA.v.width, .int .i64 rA.v.seq, .bool rA.v.last, .slice rA.A rA.n rA.c] 48)) w.heap.size 48 #[.int .u8 (r.v.kind : Int), .int .i64 r.v.client, .int .i64 r.v.epoch, .int .i64 r.v.width, .int .i64 r.v.seq, .bool r.v.last, .slice r.A r.n r.c] ∧ Below w.heap.size w (wA.alloc (.cells #[.int .u8 (rA.v.kind : Int), .int .i64 rA.v.client, .int .i64 rA.v.epoch, .int .i64 rA.v.width, .int .i64 rA.v.seq, .bool rA.v.last, .slice rA.A rA.n rA.c] 48))) := ⟨HBA.out.1.alloc _, HBA.out.2.1.alloc HBA.out.2.1.size _⟩
        have hsm := Lib.hid (HSM.out rA _ HB5.out.2 (hrd.ext (below_1 _ _)) hrA)
        clear hca hbA hoA hfA hrA hrd da db dc dd de df dg
        have da := (HBA.out.1).cell 0; have db := (HBA.out.1).cell 1; have dc := (HBA.out.1).cell 2; have dd := (HBA.out.1).cell 3; have de := (HBA.out.1).cell 4; have df := (HBA.out.1).cell 5; have dg := (HBA.out.1).cell 6; simp only [List.getElem?_toArray, List.getElem?_cons_zero, List.getElem?_cons_succ] at da db dc dd de df dg
        have hltA := HBA.out.2.2
        have hneA : w.heap.size ≠ wA.heap.size := by omega
        try simp only at hsm
        unfold Mr.agg
        try simp only
        go_wp2_with (first | (with_reducible refine wpList_store_new _ rfl 48 (.tmp 7) (.tmp 39) rfl _ _ rfl rfl (zM rA) (zM7 rA) (one7 _ _ _ _ _ _ _ _ _) ?_) | (go_at_call 37; refine hsm.out.mono ?_; rintro e wB ⟨rfl, hbB⟩; have HW : Hid (Below w.heap.size w wB) := ext_under HB5.out.2 (Nat.le_refl _) hbB; clear hbB))
        have HW9 : Hid (Below w.heap.size w wB) := HW
        generalize wB = W9 at *
        try simp only
        by_cases hpe : (parseM bs).2 = 0
        · obtain ⟨o, ho⟩ : ∃ o, parseM bs = (o, 0) := ⟨(parseM bs).1, by rw [← hpe]⟩
          have hpp := print_parse ho
          have hml := may_len hpp.1
          have HPO := Lib.hid hpp.2
          have hca := hpb.out W9 HW9.out
          rw [ho] at hca
          clear ho hpe
          refine hca.mono ?_; rintro e wA ⟨hbA, rA, rfl, hrA, hoA, hfA⟩
          have HRD : Hid (rA.Rd wA ∧ Below w.heap.size w wA) := ⟨rd_of hoA (by rw [hrA]; exact hml.1) (by rw [hrA]; exact hml.2), ext_under HW9.out (Nat.le_refl _) hbA⟩
          have hprA := Lib.hid (fun W (hW : Below wA.heap.size wA W) => print_any rA W (HRD.out.1.ext hW))
          rw [hrA] at hprA
          simp only at hprA
          rw [HPO.out] at hprA
          clear hca hbA hoA hfA hpp hml hrA
          unfold Mr.agg at hprA ⊢
          simp only
          have hbx := below_1 wA (.cells #[.int .u8 (rA.v.kind : Int), .int .i64 rA.v.client, .int .i64 rA.v.epoch, .int .i64 rA.v.width, .int .i64 rA.v.seq, .bool rA.v.last, .slice rA.A rA.n rA.c] 48)
          have HBX := Lib.hid hbx
          clear hbx
          go_wp2_with (first | (with_reducible refine wpList_store_new _ rfl 48 (.tmp 9) (.tmp 57) rfl _ _ rfl rfl (zM rA) (zM7 rA) (one7 _ _ _ _ _ _ _ _ _) ?_) | (go_at_call 32; refine (hprA.out _ HBX.out).mono ?_; rintro e wB ⟨hbB, AB, nB, cB, rfl, hoB, hfB⟩; have HBB : Hid (Below w.heap.size w wB ∧ BySl wB wB.heap.size B bs ∧ BySl wB wB.heap.size AB bs ∧ nB = bs.length) := ⟨ext_under (ext_under HRD.out.2 (Nat.le_refl _) HBX.out) (Nat.le_refl _) hbB, HR.out.2.2.ext (ext_under (ext_under HRD.out.2 (Nat.le_refl _) HBX.out) (Nat.le_refl _) hbB), hoB.sl encB_len, hoB.len⟩; clear hbB hoB hfB))
          refine (same_v9 wB HBB.out.2.2.1 HBB.out.2.1 HBB.out.2.2.2 hnb.out (by have := hn1000.out; have := hnb.out; omega)).mono ?_; rintro e wC ⟨rfl, kC, rfl⟩
          go_wp2
          go_ret
          exact ⟨rfl, bdrewN HBB.out.1 kC⟩
        · have hca := hpb.out W9 HW9.out
          rw [parse_err hpe] at hca
          clear hpe
          refine hca.mono ?_; rintro e wA ⟨hbA, rA, rfl, hrA, hoA, hfA⟩
          try simp only at hrA
          have hbw := ext_under HW9.out (Nat.le_refl _) hbA
          have HBX : Hid (Below w.heap.size w (wA.alloc (.cells #[.int .u8 (rA.v.kind : Int), .int .i64 rA.v.client, .int .i64 rA.v.epoch, .int .i64 rA.v.width, .int .i64 rA.v.seq, .bool rA.v.last, .slice rA.A rA.n rA.c] 48))) := hbw.alloc hbw.size _
          have hrd : rA.Rd wA := rd_of hoA (by rw [hrA]; decide) (by rw [hrA]; decide)
          have hsm := Lib.hid (fun W (hW : Below wA.heap.size wA W) => Same_v rA mr0 true W (hrd.ext hW) (nil_rd _ ms0 rfl (by decide)) (by rw [hrA]; exact sameM_self ms0))
          clear hca hbA hoA hfA hrA hrd hbw
          unfold Mr.agg mr0 ms0 at hsm
          unfold Mr.agg
          simp only at hsm ⊢
          go_wp2_with (first | (with_reducible refine wpList_store_new _ rfl 48 (.tmp 9) (.tmp 57) rfl _ _ rfl rfl (zM rA) (zM7 rA) (one7 _ _ _ _ _ _ _ _ _) ?_) | (go_at_call 37; refine (hsm.out _ (below_1 _ _)).mono ?_; rintro e wB ⟨rfl, hbB⟩))
          go_ret
          exact ⟨rfl, ext_under HBX.out (Nat.le_refl _) hbB⟩
set_option maxRecDepth 100000 in
theorem lifted (os : Os) (started : os.Started) (H : Type) (enc : TypeId × Value → H) :
    ReturnsInHanded {} Try.checked os 8 .any (Rows.messageBackSpec.pre6 enc Try.prog Try.f8 Rows.messageBackRow.domain false) (Rows.messageBackSpec.post enc Try.prog Try.f8 false true false false) := by
  refine returnsInHanded_of_change_sized (C := Try.checked) own started (by kernel_rfl) Try.func8
    (ChangeSpec.witness6 (enc := enc) (C := Try.checked) false ⟨#[], #[.agg #[.int .u8 0, .int .i64 0, .int .i64 0, .int .i64 0, .int .i64 0, .bool false, .slice none 0 0], .slice none 0 0], []⟩ 8 (by kernel_rfl) (by kernel_rfl) (by kernel_rfl) (by kernel_rfl)) ?_
  intro W base args ds gs before hval0 hW hcnd hsz0 _
  have hval : ∀ (j : Nat) t v, Try.f8.params[j]? = some t → args[j]? = some v → Value.okWide Try.prog W .any base t v := hval0
  have hW' := hW
  obtain ⟨p, q, hA0, hV, rfl, hfz, hnd⟩ := hW
  have hA : DataW.TrodAll enc Try.prog W 0 (fun _ => true) true Try.f8.params.toList args.toList ds p := hA0
  have hsz : (DataW.weightsEach Try.prog (Try.f8.params.toList ++ []) (ds ++ gs)).all (· ≤ reachBytes) = true := hsz0
  rw [Try.params8] at hA hval hsz
  have hAll := hA
  obtain ⟨v0, vs0, d0, ds0, p0, q0, hargs, rfl, rfl, h0, r0⟩ := trodAll_cons hA
  obtain ⟨v1, vs1, d1, ds1, p1, q1, rfl, rfl, rfl, h1, r1⟩ := trodAll_cons r0
  obtain ⟨rfl, rfl, rfl⟩ := trodAll_nil r1
  obtain rfl : args = #[v0, v1] := by cases args; simp_all
  obtain ⟨rfl, rfl⟩ := trodVars_none hV
  obtain ⟨m, rfl, m_in⟩ := open_msg (hval 0 48 v0 rfl rfl) h0 (light_of hsz (j := 0) rfl rfl)
  obtain ⟨b_A, b, b_cap, rfl, b_sl, b_ok, b_le, b_max, b_reach, b_nil⟩ := open_sl Try.underlying25 (c := 1) (by kernel_rfl) (by decide) opens_u8 (hval 1 25 v1 rfl rfl) h1 (light_of hsz (j := 1) rfl rfl)
  refine (walk m b b_A b.length b_cap W m_in b_sl rfl b_le).mono fun e W' ⟨he, bel⟩ => ?_
  subst he
  exact ⟨_, rfl, _, _, _, [], _, [], hW', trodAll_mk1 (shut_bool Try.underlying4 _), keep_args laidOut bel (by kernel_rfl) hAll, rfl, bel.frame _, fun h => by cases h⟩

theorem over : Rows.messageBackRow.holds Try.pinned (OpenSpec.ofChange Rows.messageBackSpec) :=
  OpenClaim.holds_of_wide 8 Try.f8 rfl rfl rfl rfl rfl rfl rfl ⟨rfl, rfl, rfl, rfl, rfl⟩ rfl rfl rfl rfl rfl (by kernel_rfl) Try.func8 (by kernel_rfl)
    (of_decide_eq_true (by kernel_rfl)) (by unfold Func.isWrapper; first | (rw [if_pos (by decide +kernel)]; kernel_rfl) | (rw [if_neg (by decide +kernel)]; exact ⟨rfl, rfl⟩))
    (fun os started H enc _ => lifted os started H enc)

theorem proved : Rows.MessageBackSaid := over
#print axioms proved
end Go.Proofs.Ytoneechcclndaaa.lawMBk
