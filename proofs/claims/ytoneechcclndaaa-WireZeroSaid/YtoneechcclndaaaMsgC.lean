/- message: the program's Print. -/
import Derived.Test.YtoneechcclndaaaMsgB
import Derived.Test.YtoneechcclndaaaAwake04
import Derived.Outline
import Derived.BigQuiet
import Derived.Deep.QuietTactic
import Derived.Deep.RegionWith
import Derived.Deep.RegionHeld3
import Derived.Deep.DrawnRows
import Derived.Deep.LoopGhost
import Derived.Deep.DeepCutAuto
import Derived.Laws.EntriesVeiled
namespace Go.Proofs.Ytoneechcclndaaa.Msg
open Go.RowKit Go.ChangeShapes Go.WideShapes Go.ChangeAt
set_option linter.unusedVariables false
set_option linter.unusedSimpArgs false
attribute [local go_sem ↓] Go.wp_at_zero Go.wp_at_succ
open Go.Shelf Go.Proofs.Ytoneechcclndaaa.Word Go.Proofs.Ytoneechcclndaaa.Wire

/-- it may be read -/
structure Mr.Rd (w : World) (r : Mr) : Prop where
  b : BySl w w.heap.size r.A r.v.bs
  n : Hid (r.n = r.v.bs.length)
  le : r.v.bs.length ≤ 1000000
  kd : r.v.kind ≤ 255
theorem Mr.Rd.ext {w w' : World} {r : Mr} (h : r.Rd w) (hb : Below w.heap.size w w') : r.Rd w' := ⟨h.b.ext hb, h.n, h.le, h.kd⟩
theorem mayK_num {k : Kk} {m : Ms} (h : mayK k m = true) : (0 ≤ m.client ∧ m.client ≤ 5) ∧ (1 ≤ m.epoch ∧ m.epoch ≤ 1099511627776) ∧ (0 ≤ m.width ∧ m.width ≤ 2147483648) ∧ ((0 ≤ m.seq ∨ k.least ≤ m.seq) ∧ m.seq ≤ 1099511627776) := by
  unfold mayK inB at h
  simp only [Bool.and_eq_true, Bool.or_eq_true, decide_eq_true_eq, Bool.not_eq_true', beq_iff_eq] at h
  obtain ⟨h1, h2, h3, h4, h5⟩ := h
  refine ⟨by rcases h1 with h | h <;> simp_all, by rcases h2 with h | h <;> simp_all, ?_, ?_⟩
  · rcases h3 with h | h <;> omega
  · rcases h4 with h | h
    · exact ⟨.inr h.1.2, h.2⟩
    · exact ⟨.inl (by omega), by omega⟩
theorem kk_least {n : Nat} {k : Kk} (h : kkOf n = some k) : 0 ≤ k.least := by
  rcases kk_cases h with ⟨_, rfl⟩ | ⟨_, rfl⟩ | ⟨_, rfl⟩ | ⟨_, rfl⟩ | ⟨_, rfl⟩ <;> decide

/-- what the loop has put together -/
structure LP (W wr : World) (l : List Wr) (A : Option Addr) (n c : Nat) : Prop where
  own : OwnA wr 38 5 Wr.cells (.slice A n c) l
  be : Below W.heap.size W wr
  fr : ∀ k, (Value.slice A n c).ownBlock = some k → W.heap.size ≤ k
theorem LP.next {W wr w5 : World} {l m : List Wr} {A A' : Option Addr} {n c n' c' : Nat} {o : Obj} (h : LP W wr l A n c) (hown : OwnA w5 38 5 Wr.cells (.slice A' n' c') (l ++ m))
    (hc : Chg (fun k => (Value.slice A n c).ownBlock = some k) (wr.alloc o) w5) (hat : (Value.slice A' n' c').ownBlock = (Value.slice A n c).ownBlock ∨ (Value.slice A' n' c').ownBlock = some (wr.alloc o).heap.size) : LP W w5 (l ++ m) A' n' c' := by
  have hbo := h.be.alloc h.be.size o
  refine ⟨hown, hbo.trans (hc.below hbo.size fun i hi hs => by have := h.fr _ hs; omega), fun k hk => ?_⟩
  rcases hat with hat | hat
  · exact h.fr k (hat ▸ hk)
  · rw [hat] at hk; injection hk with hk; have := hbo.size; omega
def mkY (bs : List UInt8) (A : Option Addr) (n c : Nat) : Wr := ⟨{ wv0 with b := bs }, A, n, c, none, 0, 0⟩
def six (kd q1 q2 q3 : Nat) (la : Bool) (bs : List UInt8) (A : Option Addr) (n c : Nat) : List Wr := [mkN kd, mkN q1, mkN q2, mkN q3, mkF la, mkY bs A n c]
theorem sch_len (k : Kk) : 3 ≤ (schS k).length ∧ (schS k).length ≤ 6 := by
  obtain ⟨a, b, c, d, e⟩ := k
  cases a <;> cases b <;> cases c <;> simp [schS]

theorem box_up {w w1 w2 : World} {t : TypeId} {cs : Array Value} (h : Hid (Blk w1 w.heap.size t cs ∧ Below w.heap.size w w1 ∧ w.heap.size < w1.heap.size)) (hb : Below w1.heap.size w1 w2) : Hid (Blk w2 w.heap.size t cs ∧ Below w.heap.size w w2 ∧ w.heap.size < w2.heap.size) :=
  ⟨h.out.1.ext hb, ext_under h.out.2.1 (Nat.le_refl _) hb, by have := hb.size; have := h.out.2.2; omega⟩
theorem RetPut.up {w w0 w1 : World} {x : List UInt8 × Int} {e : Ending} (hb0 : Below w.heap.size w w0) (h : RetPut w0 x e w1) : RetPut w x e w1 := by
  obtain ⟨hb, A, n, c, he, ho, hf⟩ := h
  exact ⟨ext_under hb0 (Nat.le_refl _) hb, A, n, c, he, ho, fun k hk => Nat.le_trans hb0.size (hf k hk)⟩
theorem put_six (k : Kk) (sb : ByteArray) (kd q1 q2 q3 : Nat) (la : Bool) (bs : List UInt8) (A : Option Addr) (n c : Nat) (A5 : Option Addr) (n5 c5 : Nat) (w5 w6 : World) (ho : OwnA w5 38 5 Wr.cells (.slice A5 n5 c5) (six kd q1 q2 q3 la bs A n c)) (hb : Below w5.heap.size w5 w6)
    (hS : sb.data.toList = schS k ∧ sb.size = (schS k).length) (h6 : sb.size ≤ 6) {kk cl ep wd sq} (hr : Mr.Rd w6 ⟨⟨kk, cl, ep, wd, sq, la, bs⟩, A, n, c⟩) (b0 : kd < p64) (b1 : q1 < p64) (b2 : q2 < p64) (b3 : q3 < p64) :
    Calls Try.prog 18 #[.string sb, .slice A5 sb.size c5] w6 (RetPut w6 (putP sb.data.toList (((six kd q1 q2 q3 la bs A n c).take (schS k).length).map Wr.v))) := by
  have hn := ho.len
  obtain ⟨A0, n0, c0, hv, _, hle, _⟩ := ho.form
  cases hv
  have hl6 : (six kd q1 q2 q3 la bs A n c).length = 6 := rfl
  have ht := (ho.ext hb).take Wr.cells_len sb.size c5 (by omega) (by omega) (Nat.le_refl _)
  rw [hS.2] at ht
  have hlen : ((six kd q1 q2 q3 la bs A n c).take (schS k).length).length = (schS k).length := by rw [List.length_take]; have := sch_len k; omega
  rw [hS.2]
  refine put_any' sb _ A5 (schS k).length c5 w6 (by rw [hS.1]; have := sch_len k; omega) ⟨ht.sl Wr.cells_len, hlen.symm, fun r hr' => ?_, by have := sch_len k; omega⟩
  have hm := List.mem_of_mem_take hr'
  simp only [six, List.mem_cons, List.not_mem_nil, or_false] at hm
  rcases hm with rfl | rfl | rfl | rfl | rfl | rfl
  · exact mkN_rd _ _ b0
  · exact mkN_rd _ _ b1
  · exact mkN_rd _ _ b2
  · exact mkN_rd _ _ b3
  · exact mkF_rd _ _
  · exact ⟨hr.b, hr.n.out, Sl.nil _ _ _ _ _, rfl, wv0_wf.1, wv0_wf.2.1, wv0_wf.2.2.1, wv0_wf.2.2.2.1, hr.le, wv0_wf.2.2.2.2.2⟩
theorem slice_six {A : Option Addr} {n c m : Nat} (hm : m ≤ 6) (hn : n = 6) (hc : n ≤ c) : ∀ W, (Instr.slice 22 (.slice A n c) none (some (.int .i64 (m : Int))) none).run Try.prog W = .ok (.slice A m c) W := fun W => by
  have := run_slice_hi (c := 5) Try.underlying22 (Option.isSome_iff_exists.1 (by kernel_rfl)) (by kernel_rfl) A n c (m : Int) (by omega) (by omega) W
  simpa using this
theorem run_ix4 (a b c d : Int) (W : World) : (Instr.index 104 (.agg #[.int .i64 a, .int .i64 b, .int .i64 c, .int .i64 d]) (.int .i64 0)).run Try.prog W = .ok (.int .i64 a) W ∧
    (Instr.index 104 (.agg #[.int .i64 a, .int .i64 b, .int .i64 c, .int .i64 d]) (.int .i64 1)).run Try.prog W = .ok (.int .i64 b) W ∧
    (Instr.index 104 (.agg #[.int .i64 a, .int .i64 b, .int .i64 c, .int .i64 d]) (.int .i64 2)).run Try.prog W = .ok (.int .i64 c) W ∧
    (Instr.index 104 (.agg #[.int .i64 a, .int .i64 b, .int .i64 c, .int .i64 d]) (.int .i64 3)).run Try.prog W = .ok (.int .i64 d) W := by
  refine ⟨?_, ?_, ?_, ?_⟩ <;> kernel_rfl
set_option maxHeartbeats 8000000 in
theorem print_any (r : Mr) (w : World) (hr : r.Rd w) : Calls Try.prog 32 #[r.agg] w (RetPut w (printM r.v)) := by
  have e1 : IntKind.u64.wrap (r.v.kind : Int) = (r.v.kind : Int) := IntWalk.u64_in _ (by have := hr.kd; omega)
  have hmay := Lib.hid fun W => may_any r W hr.kd hr.n
  have HR := Lib.hid hr
  obtain ⟨j0, hj, hy0, hy1, hy2⟩ := info_parts vInfo
  cases hm : mayB r.v with
  | false =>
    have HM : Hid (printM r.v = ([], 2)) := by
      unfold Hid printM
      unfold mayB at hm
      cases hk : kkOf r.v.kind with
      | none => rfl
      | some k => rw [hk] at hm; simp only at hm ⊢; rw [hm]; simp
    rw [hm] at hmay
    unfold Mr.agg at hmay ⊢
    clear hm hr
    go_enter Try.func32, Try.ntmps32
    go_wp2_with (go_at_call 35; refine (hmay.out _).mono ?_; rintro e w2 ⟨rfl, hb2⟩)
    refine bodyPost_ret (v := .tuple #[.slice none 0 0, .int .i64 2]) (by simp [results, Try.results32, go_sem]) rfl ?_
    rw [HM.out]
    exact RetPut.err ((below_1 w _).trans (hb2.mono (by simp))) 2 rfl
  | true =>
    cases hk : kkOf r.v.kind with
    | none => unfold mayB at hm; rw [hk] at hm; cases hm
    | some k =>
      have hmk : mayK k r.v = true := by unfold mayB at hm; rw [hk] at hm; exact hm
      have HM : Hid (printM r.v = putP (schS k) (valsK k r.v)) := by unfold Hid printM; rw [hk]; simp only; rw [hmk]; rfl
      have hnum := mayK_num hmk
      have hle := kk_least hk
      have HO := Lib.hid fun W => of_is r.v.kind k W (by have := hr.kd; omega) hk
      rw [hm] at hmay
      unfold Mr.agg at hmay ⊢
      clear hm hk hmk
      obtain ⟨⟨kd, cl, ep, wd, sq, la, bs⟩, A, n, c⟩ := r
      simp only at *
      obtain ⟨q1, rfl⟩ : ∃ q : Nat, cl = (q : Int) := ⟨cl.toNat, by omega⟩
      obtain ⟨q2, rfl⟩ : ∃ q : Nat, ep = (q : Int) := ⟨ep.toNat, by omega⟩
      obtain ⟨q3, hq3⟩ : ∃ q : Nat, wd + sq = (q : Int) := ⟨(wd + sq).toNat, by omega⟩
      have f1 : IntKind.u64.wrap (q1 : Int) = (q1 : Int) := IntWalk.u64_in _ (by omega)
      have f2 : IntKind.u64.wrap (q2 : Int) = (q2 : Int) := IntWalk.u64_in _ (by omega)
      have f3 : IntKind.u64.wrap (q3 : Int) = (q3 : Int) := IntWalk.u64_in _ (by omega)
      have f4 : IntKind.i64.wrap (wd + sq) = (q3 : Int) := by rw [IntWalk.i64_in _ (by omega), hq3]
      have f5 : IntKind.i64.wrap (kd : Int) = (kd : Int) := IntWalk.i64_in _ (by have := hr.kd; simp only at this; omega)
      have HV : Hid (valsK k ⟨kd, (q1 : Int), (q2 : Int), wd, sq, la, bs⟩ = ((six kd q1 q2 q3 la bs A n c).take (schS k).length).map Wr.v) := by
        unfold Hid valsK vals6 six
        rw [List.map_take]
        simp [nV, hq3, mkN, mkF, mkY]
      have HQ : Hid (kd ≤ 255 ∧ q1 ≤ 5 ∧ q2 ≤ 1099511627776 ∧ q3 ≤ 1101659111424) := ⟨hr.kd, by omega, by omega, by omega⟩
      clear hnum hle hr hq3
      go_enter Try.func32, Try.ntmps32
      go_wp2_with fail
      refine (hmay.out _).mono ?_; rintro e w1 ⟨rfl, hb1⟩
      have HB := box_in hb1
      clear hb1
      (have hlt := HB.out.2.2; have hne : w.heap.size ≠ w1.heap.size := by omega); have c0 := HB.out.1.cell 0; have c1 := HB.out.1.cell 1; have c2 := HB.out.1.cell 2; have c3 := HB.out.1.cell 3; have c4 := HB.out.1.cell 4; have c5 := HB.out.1.cell 5; have c6 := HB.out.1.cell 6; simp only [List.getElem?_toArray, List.getElem?_cons_zero, List.getElem?_cons_succ] at c0 c1 c2 c3 c4 c5 c6
      go_wp2_with fail
      refine (HO.out _).mono ?_; rintro e w2 ⟨rfl, hb2⟩
      have HB2 := box_up HB hb2
      clear hb2 c0 c1 c2 c3 c4 c5 c6 hlt hne
      (have hlt := HB2.out.2.2; have hne : w.heap.size ≠ w2.heap.size := by omega); have c0 := HB2.out.1.cell 0; have c1 := HB2.out.1.cell 1; have c2 := HB2.out.1.cell 2; have c3 := HB2.out.1.cell 3; have c4 := HB2.out.1.cell 4; have c5 := HB2.out.1.cell 5; have c6 := HB2.out.1.cell 6; simp only [List.getElem?_toArray, List.getElem?_cons_zero, List.getElem?_cons_succ] at c0 c1 c2 c3 c4 c5 c6
      go_wp2_with fail
      have HB3 : Hid (Blk (w2.alloc (.cells #[.bool k.width, .bool k.seq, .bool k.data, .int .i64 k.least, .bool k.up] 99)) w.heap.size 48 #[.int .u8 (kd : Int), .int .i64 (q1 : Int), .int .i64 (q2 : Int), .int .i64 wd, .int .i64 sq, .bool la, .slice A n c] ∧
          Blk (w2.alloc (.cells #[.bool k.width, .bool k.seq, .bool k.data, .int .i64 k.least, .bool k.up] 99)) w2.heap.size 99 #[.bool k.width, .bool k.seq, .bool k.data, .int .i64 k.least, .bool k.up] ∧
          Below w.heap.size w (w2.alloc (.cells #[.bool k.width, .bool k.seq, .bool k.data, .int .i64 k.least, .bool k.up] 99))) := ⟨HB2.out.1.alloc _, Blk.new _ _ _, HB2.out.2.1.alloc HB2.out.2.1.size _⟩
      clear c0 c1 c2 c3 c4 c5 c6 hlt hne
      generalize w2.alloc (.cells #[.bool k.width, .bool k.seq, .bool k.data, .int .i64 k.least, .bool k.up] 99) = w3 at *
      generalize w2.heap.size = kb at *
      go_loopg [6, 33] 4 (fun g vl vj wr => ∃ (j : Nat) (A2 : Option Addr) (n2 c2 : Nat), vj = .int .i64 (j : Int) ∧ vl = .slice A2 n2 c2 ∧ 4 ≤ j + g ∧ j ≤ 4 ∧ Hid (LP w3 wr ((six kd q1 q2 q3 la bs A n c).take j) A2 n2 c2))
      case atStart => exact ⟨0, none, 0, 0, rfl, rfl, by omega, by omega, OwnA.nil_ _ _ _ _, Below.refl _ _, fun k hk => by cases hk⟩
      case round =>
        obtain ⟨j, A2, n2, c2, rfl, rfl, hg, hj4, hP⟩ := hrel
        obtain ⟨x0, x1, x2, x3⟩ := run_ix4 (kd : Int) (q1 : Int) (q2 : Int) (q3 : Int) wr
        obtain rfl | rfl | rfl | rfl | rfl : j = 0 ∨ j = 1 ∨ j = 2 ∨ j = 3 ∨ j = 4 := by omega
        · go_wp2_with (at_builtin; refine wpList_append_a _ rfl _ _ _ rfl 38 j0 _ 5 72 Try.underlying22 hj hy0 hy1 hy2 rfl (by decide) Wr.cells_len Wr.cells_one _ ([] : List Wr) (by rfl) (hP.out.own.alloc _) _ (some ⟨wr.heap.size, 0, none⟩) [mkN kd] 1 1 (by rfl) rfl (lit_list wr [mkN kd] 38 Wr.cells_len) (by simp [maxLen]) (by simp) ?_; intro v' w5 hown' hchg hat; obtain ⟨A5, n5, c5, rfl, hn5, hle5, hmx5, hnil5⟩ := hown'.form; have HN := Lib.hid (hP.out.next hown' hchg hat); clear hown' hchg hat)
          go_roundg (gk - 1)
          case measure => omega
          case rel => exact ⟨1, A5, n5, c5, by go_num, rfl, by omega, by omega, HN.out⟩
        · go_wp2_with (at_builtin; refine wpList_append_a _ rfl _ _ _ rfl 38 j0 _ 5 72 Try.underlying22 hj hy0 hy1 hy2 rfl (by decide) Wr.cells_len Wr.cells_one _ [mkN kd] (by rfl) (hP.out.own.alloc _) _ (some ⟨wr.heap.size, 0, none⟩) [mkN q1] 1 1 (by rfl) rfl (lit_list wr [mkN q1] 38 Wr.cells_len) (by simp [maxLen]) (by simp) ?_; intro v' w5 hown' hchg hat; obtain ⟨A5, n5, c5, rfl, hn5, hle5, hmx5, hnil5⟩ := hown'.form; have HN := Lib.hid (hP.out.next hown' hchg hat); clear hown' hchg hat)
          go_roundg (gk - 1)
          case measure => omega
          case rel => exact ⟨2, A5, n5, c5, by go_num, rfl, by omega, by omega, HN.out⟩
        · go_wp2_with (at_builtin; refine wpList_append_a _ rfl _ _ _ rfl 38 j0 _ 5 72 Try.underlying22 hj hy0 hy1 hy2 rfl (by decide) Wr.cells_len Wr.cells_one _ [mkN kd, mkN q1] (by rfl) (hP.out.own.alloc _) _ (some ⟨wr.heap.size, 0, none⟩) [mkN q2] 1 1 (by rfl) rfl (lit_list wr [mkN q2] 38 Wr.cells_len) (by simp [maxLen]) (by simp) ?_; intro v' w5 hown' hchg hat; obtain ⟨A5, n5, c5, rfl, hn5, hle5, hmx5, hnil5⟩ := hown'.form; have HN := Lib.hid (hP.out.next hown' hchg hat); clear hown' hchg hat)
          go_roundg (gk - 1)
          case measure => omega
          case rel => exact ⟨3, A5, n5, c5, by go_num, rfl, by omega, by omega, HN.out⟩
        · go_wp2_with (at_builtin; refine wpList_append_a _ rfl _ _ _ rfl 38 j0 _ 5 72 Try.underlying22 hj hy0 hy1 hy2 rfl (by decide) Wr.cells_len Wr.cells_one _ [mkN kd, mkN q1, mkN q2] (by rfl) (hP.out.own.alloc _) _ (some ⟨wr.heap.size, 0, none⟩) [mkN q3] 1 1 (by rfl) rfl (lit_list wr [mkN q3] 38 Wr.cells_len) (by simp [maxLen]) (by simp) ?_; intro v' w5 hown' hchg hat; obtain ⟨A5, n5, c5, rfl, hn5, hle5, hmx5, hnil5⟩ := hown'.form; have HN := Lib.hid (hP.out.next hown' hchg hat); clear hown' hchg hat)
          go_roundg (gk - 1)
          case measure => omega
          case rel => exact ⟨4, A5, n5, c5, by go_num, rfl, by omega, by omega, HN.out⟩
        · have c5 : wr.cell? ⟨w.heap.size, 5, none⟩ = some (.bool la) := (HB3.out.1.ext hP.out.be).cell 5
          have c6 : wr.cell? ⟨w.heap.size, 6, none⟩ = some (.slice A n c) := (HB3.out.1.ext hP.out.be).cell 6
          obtain ⟨sb, hsb⟩ : ∃ sb : ByteArray, sb = ⟨(schS k).toArray⟩ := ⟨_, rfl⟩
          have HS : Hid (sb.data.toList = schS k ∧ sb.size = (schS k).length) := by rw [hsb]; exact ⟨by simp, by simp [ByteArray.size]⟩
          have hsc := Lib.hid fun W => schema_k k W
          rw [← hsb] at hsc
          have hs6 : sb.size ≤ 6 := by rw [HS.out.2]; exact (sch_len k).2
          clear hsb
          go_wp2_with (first | ((at_builtin; refine wpList_append_a _ rfl _ _ _ rfl 38 j0 _ 5 72 Try.underlying22 hj hy0 hy1 hy2 rfl (by decide) Wr.cells_len Wr.cells_one _ [mkN kd, mkN q1, mkN q2, mkN q3] (by rfl) (hP.out.own.alloc _) _ (some ⟨wr.heap.size, 0, none⟩) [mkF la, mkY bs A n c] 2 2 (by rfl) rfl (lit_list wr [mkF la, mkY bs A n c] 38 Wr.cells_len) (by simp [maxLen]) (by simp) ?_; intro v' w5 hown' hchg hat; obtain ⟨A5, n5, c5, rfl, hn5, hle5, hmx5, hnil5⟩ := hown'.form; have HN := Lib.hid (hP.out.next hown' hchg hat); clear hown' hchg hat); have k0 := (HB3.out.2.1.ext HN.out.be).cell 0; have k1 := (HB3.out.2.1.ext HN.out.be).cell 1; have k2 := (HB3.out.2.1.ext HN.out.be).cell 2; have k3 := (HB3.out.2.1.ext HN.out.be).cell 3; have k4 := (HB3.out.2.1.ext HN.out.be).cell 4; simp only [List.getElem?_toArray, List.getElem?_cons_zero, List.getElem?_cons_succ] at k0 k1 k2 k3 k4) | (go_at_call 65; refine (hsc.out _).mono ?_; rintro e w6 ⟨rfl, hb6⟩; have HSL := slice_six (A := A5) (n := n5) (c := c5) hs6 hn5.out hle5))
          have HW6 : Hid (Below w.heap.size w w6) := ext_under (ext_under HB3.out.2.2 (Nat.le_refl _) HN.out.be) (Nat.le_refl _) hb6
          have hp := put_six k sb kd q1 q2 q3 la bs A n c A5 n5 c5 w5 w6 HN.out.own hb6 HS.out hs6 (HR.out.ext HW6.out) (by have := HQ.out; unfold p64; omega) (by have := HQ.out; unfold p64; omega) (by have := HQ.out; unfold p64; omega) (by have := HQ.out; unfold p64; omega)
          have HP9 : Hid (printM ⟨kd, (q1 : Int), (q2 : Int), wd, sq, la, bs⟩ = putP sb.data.toList (((six kd q1 q2 q3 la bs A n c).take (schS k).length).map Wr.v)) := by rw [Hid, HM.out, HV.out, HS.out.1]
          rw [← HP9.out] at hp
          generalize printM ⟨kd, (q1 : Int), (q2 : Int), wd, sq, la, bs⟩ = X at *
          obtain ⟨p, er⟩ := X
          clear HM HP9 HV
          refine hp.mono ?_; rintro e w7 ⟨hb7, A7, n7, c7, rfl, ho7, hf7⟩
          clear hp HSL
          go_wp2
          exact bodyPost_ret (v := .tuple #[.slice A7 n7 c7, .int .i64 er]) (by simp [results, Try.results32, go_sem]) rfl (RetPut.up HW6.out ⟨hb7, A7, n7, c7, rfl, ho7, hf7⟩)
end Go.Proofs.Ytoneechcclndaaa.Msg
