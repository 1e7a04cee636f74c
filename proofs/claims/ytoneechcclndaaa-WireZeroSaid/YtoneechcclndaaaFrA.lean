/- frag: the program's Print. -/
import Derived.Test.YtoneechcclndaaaFrP
import Derived.Test.YtoneechcclndaaaCheck
import Derived.Test.YtoneechcclndaaaMsgC
import Derived.Lib.ConvBytes
import Derived.Outline
import Derived.BigQuiet
import Derived.Deep.QuietTactic
import Derived.Deep.RegionWith
import Derived.Deep.RegionHeld3
import Derived.Deep.DrawnRows
import Derived.Deep.LoopGhost
import Derived.Deep.DeepCutAuto
import Derived.Laws.EntriesVeiled
namespace Go.Proofs.Ytoneechcclndaaa.FForm
open Go.RowKit Go.ChangeShapes Go.WideShapes Go.ChangeAt
set_option linter.unusedVariables false
set_option linter.unusedSimpArgs false
attribute [local go_sem ↓] Go.wp_at_zero Go.wp_at_succ
open Go.Shelf Go.Proofs.Ytoneechcclndaaa.Word Go.Proofs.Ytoneechcclndaaa.Wire Go.Proofs.Ytoneechcclndaaa.Msg FragA FragB MayA Tree FCheck lawTorn

/-- bytes of a string, in a block of their own -/
theorem bytes_world (W : World) (s : ByteArray) : Below W.heap.size W (Lib.bytesWorld W 5 s) ∧ BySl (Lib.bytesWorld W 5 s) (Lib.bytesWorld W 5 s).heap.size (some ⟨W.heap.size, 0, none⟩) s.data.toList := by
  refine ⟨⟨rfl, rfl, rfl, by rw [Lib.bytesWorld_size]; omega, fun i hi => Lib.bytesWorld_at_old W _ s i hi⟩, fun _ => ⟨W.heap.size, 0, rfl, by rw [Lib.bytesWorld_size]; omega, fun k y hy j v hv => ?_⟩⟩
  have hk : k < s.size := (List.getElem?_eq_some_iff.1 hy).1
  have hj : j = 0 := by
    rcases j with _ | j
    · rfl
    · simp [encB] at hv
  subst hj
  have hy2 : s.data.toList.getD k 0 = y := by rw [List.getD_eq_getElem?_getD, hy]; rfl
  have h := Lib.bytesWorld_cell W 5 s k hk
  rw [hy2] at h
  simp only [encB, List.getElem?_cons_zero, Option.some.injEq] at hv
  rw [← hv, ← h]
  simp
/-- []byte of a string -/
theorem conv8 (s : ByteArray) (W : World) : (convert 9 25 (.string s)).run Try.prog W = .ok (.slice (some ⟨W.heap.size, 0, none⟩) s.size (grownCap W s.size 0 5)) (Lib.bytesWorld W 5 s) :=
  Lib.run_convert_string_bytes W 9 25 5 s Try.underlying9 Try.underlying25 Try.underlying5

def three (a b c : Nat) : List Wr := [mkN a, mkN b, mkN c]
def four (x y p q : Int) : List Wr := [mkI x, mkI y, mkI p, mkI q]
def tBy (t : ByteArray) (g c : Nat) : List Wr := [mkY t.data.toList (some ⟨g, 0, none⟩) t.size c]
theorem run_ix3 (a b c : Int) (W : World) : (Instr.index 111 (.agg #[.int .i64 a, .int .i64 b, .int .i64 c]) (.int .i64 0)).run Try.prog W = .ok (.int .i64 a) W ∧
    (Instr.index 111 (.agg #[.int .i64 a, .int .i64 b, .int .i64 c]) (.int .i64 1)).run Try.prog W = .ok (.int .i64 b) W ∧
    (Instr.index 111 (.agg #[.int .i64 a, .int .i64 b, .int .i64 c]) (.int .i64 2)).run Try.prog W = .ok (.int .i64 c) W := by
  refine ⟨?_, ?_, ?_⟩ <;> kernel_rfl
theorem LP.ext {W wr w' : World} {l : List Wr} {A : Option Addr} {n c : Nat} (h : LP W wr l A n c) (hb : Below wr.heap.size wr w') : LP W w' l A n c := ⟨h.own.ext hb, ext_under h.be (Nat.le_refl _) hb, h.fr⟩
theorem text_up {W wr w7 w5 : World} {l : List Wr} {A : Option Addr} {n c : Nat} {bs : List UInt8} {o : Obj} (h : LP W wr l A n c) (hbe : Below wr.heap.size wr w7) (hsl : BySl w7 w7.heap.size (some ⟨wr.heap.size, 0, none⟩) bs)
    (hc : Chg (fun k => (Value.slice A n c).ownBlock = some k) (w7.alloc o) w5) : BySl w5 w5.heap.size (some ⟨wr.heap.size, 0, none⟩) bs := by
  refine Sl.chg (hsl.ext (below_1 w7 o)) hc (fun g hg hs => ?_)
  have := h.own.lt hs
  simp [blockOf] at hg
  omega
theorem put8 (a b c : Nat) (x y p q : Int) (t : ByteArray) (g cap : Nat) (A5 : Option Addr) (n5 c5 : Nat) (w5 : World) (ho : OwnA w5 38 5 Wr.cells (.slice A5 n5 c5) ((three a b c ++ four x y p q) ++ tBy t g cap)) (hm : mayB ⟨(a : Int), (b : Int), (c : Int), x, y, p, q, t⟩ = true)
    (hb : BySl w5 w5.heap.size (some ⟨g, 0, none⟩) t.data.toList) : Calls Try.prog 18 #[.string ⟨#[110, 110, 110, 105, 105, 105, 105, 98]⟩, .slice A5 n5 c5] w5 (RetPut w5 (rowB ⟨(a : Int), (b : Int), (c : Int), x, y, p, q, t⟩, 0)) := by
  have hn := ho.len
  obtain ⟨A0, n0, c0, hv, _, hle, _⟩ := ho.form
  cases hv
  have h1 := may_all hm
  simp only at h1
  have h9 : t.data.toList.length ≤ 256 := h1.2.2.2.2.2.2.2
  have h := put_any' ⟨#[110, 110, 110, 105, 105, 105, 105, 98]⟩ _ A5 n5 c5 w5 (by decide) ⟨ho.sl Wr.cells_len, hn, fun r hr => ?_, by simp [three, four, tBy]⟩
  · have he : putP frS (((three a b c ++ four x y p q) ++ tBy t g cap).map Wr.v) = (rowB ⟨(a : Int), (b : Int), (c : Int), x, y, p, q, t⟩, 0) := row_putP hm
    rw [← he]
    exact h
  · simp only [three, four, tBy, List.cons_append, List.nil_append, List.mem_cons, List.not_mem_nil, or_false] at hr
    rcases hr with rfl | rfl | rfl | rfl | rfl | rfl | rfl | rfl
    · exact mkN_rd _ _ (by unfold p64; omega)
    · exact mkN_rd _ _ (by unfold p64; omega)
    · exact mkN_rd _ _ (by unfold p64; omega)
    · exact mkI_rd _ _ (by omega) (by omega)
    · exact mkI_rd _ _ (by omega) (by omega)
    · exact mkI_rd _ _ (by omega) (by omega)
    · exact mkI_rd _ _ (by omega) (by omega)
    · exact ⟨hb, rfl, Sl.nil _ _ _ _ _, rfl, wv0_wf.1, wv0_wf.2.1, wv0_wf.2.2.1, wv0_wf.2.2.2.1, by simp only [mkY]; omega, wv0_wf.2.2.2.2.2⟩
theorem rowB_len {f : Fr} (h : mayB f = true) : (rowB f).length ≤ 2400000 := putS_len frK (rowV f) (row_wf h).1 (row_wf h).2
/-- how far Print has come -/
structure PrI (w wr : World) (l : List Fr) (j : Nat) (A : Option Addr) (n c : Nat) : Prop where
  own : OwnA wr 5 1 encB (.slice A n c) (putW l.length ++ (l.take j).flatMap rowB)
  be : Below w.heap.size w wr
  fr : ∀ k, (Value.slice A n c).ownBlock = some k → w.heap.size ≤ k
  len : (putW l.length ++ (l.take j).flatMap rowB).length ≤ 300000 + 2400000 * j
theorem PrI.next {w wr w8 w9 : World} {l : List Fr} {f : Fr} {j : Nat} {A A' : Option Addr} {n c n' c' : Nat} (h : PrI w wr l j A n c) (hx : l[j]? = some f) (hm : mayB f = true) (hb : Below wr.heap.size wr w8)
    (hown : OwnA w9 5 1 encB (.slice A' n' c') ((putW l.length ++ (l.take j).flatMap rowB) ++ rowB f)) (hc : Chg (fun k => (Value.slice A n c).ownBlock = some k) w8 w9)
    (hat : (Value.slice A' n' c').ownBlock = (Value.slice A n c).ownBlock ∨ (Value.slice A' n' c').ownBlock = some w8.heap.size) : PrI w w9 l (j + 1) A' n' c' := by
  have hbo := ext_under h.be (Nat.le_refl _) hb
  have he : (putW l.length ++ (l.take j).flatMap rowB) ++ rowB f = putW l.length ++ (l.take (j + 1)).flatMap rowB := by
    rw [List.take_add_one, hx, List.flatMap_append]; simp
  have hl := h.len
  have hr := rowB_len hm
  rw [he] at hown
  refine ⟨hown, hbo.trans (hc.below hbo.size fun i hi hs => by have := h.fr _ hs; omega), fun k hk => ?_, ?_⟩
  · rcases hat with hat | hat
    · exact h.fr k (hat ▸ hk)
    · rw [hat] at hk; injection hk with hk; have := hbo.size; omega
  · rw [← he, List.length_append]; omega

set_option maxHeartbeats 8000000 in
set_option maxRecDepth 100000 in
theorem fprint_any (l : List Fr) (A : Option Addr) (n cap : Nat) (w : World) (hl : FrSl w w.heap.size A l) (hw : FrsWf l) (hn : Hid (n = l.length)) (h63 : n ≤ 100000000) : Calls Try.prog 44 #[.slice A n cap] w (RetPut w (printF l)) := by
  obtain ⟨i0, hi, hz, hz1, hz2⟩ := info_parts byInfo
  obtain ⟨j0, hj, hy0, hy1, hy2⟩ := info_parts vInfo
  have hck := check_any l A n cap w hl hw hn
  by_cases hc : chk l = 0
  · rw [hc] at hck
    have HC := Lib.hid hck
    have HL := Lib.hid (And.intro hl hc)
    have hm := chk_may hc
    have HM := Lib.hid hm.2.2
    have hn2 : Hid (n ≤ 2048) := by rw [Hid, hn.out]; exact hm.2.1
    have e1 : IntKind.u64.wrap (n : Int) = (n : Int) := IntWalk.u64_in _ (by omega)
    clear hck hl hc hm
    go_enter Try.func44, Try.ntmps44
    go_wp2_with fail
    refine HC.out.mono ?_; rintro e w1 ⟨rfl, hb1⟩
    have HB := Lib.hid hb1
    clear hb1
    go_wp2_with fail
    refine (put_lit [mkN n] ⟨#[110]⟩ (putW n, 0) w1 (by decide) (head_putP n) (by
      intro r hr
      rw [List.mem_singleton] at hr
      subst hr
      exact mkN_rd _ _ (by have := hn2.out; unfold p64; omega)) (show 1 ≤ 1000000 by decide)).mono ?_
    rintro e w2 ⟨hb2, A2, n2, c2, rfl, ho2, hf2⟩
    have HI : Hid (PrI w w2 l 0 A2 n2 c2) := by
      have h1 := two_up HB.out hb2
      have hlen : (putW n).length ≤ 10 := putW_len (p64_lt (by have := hn2.out; unfold p64; omega))
      rw [Hid]
      refine ⟨?_, h1, fun k hk => ?_, ?_⟩
      · rw [List.take_zero, List.flatMap_nil, List.append_nil, ← hn.out]; exact ho2
      · have h2 := hf2 k hk
        have h3 := HB.out.size
        rw [World.size_alloc] at h2
        omega
      · rw [List.take_zero, List.flatMap_nil, List.append_nil, ← hn.out]; omega
    clear hb2 ho2 hf2
    go_wp2_with fail
    go_loopg [5, 32] n (fun g vo vj wr => ∃ (j : Nat) (A2 : Option Addr) (n2 c2 : Nat), vj = .int .i64 (j : Int) ∧ vo = .slice A2 n2 c2 ∧ n ≤ j + g ∧ j ≤ n ∧ Hid (PrI w wr l j A2 n2 c2))
    case atStart => exact ⟨0, A2, n2, c2, rfl, rfl, by omega, by omega, HI⟩
    case round =>
      obtain ⟨j, Ao, no, co, rfl, rfl, hg, hjn, hI⟩ := hrel
      by_cases hlt : j < n
      · have hjl : j < l.length := by rw [← hn.out]; exact hlt
        have hx : l[j]? = some l[j] := List.getElem?_eq_getElem hjl
        obtain ⟨bb, off, rfl, hbb, c0, c1, c2, c3, c4, c5, c6, c7⟩ := FrSl.at_ (HL.out.1.below hI.out.be) hx
        have hmj := HM.out _ (List.getElem_mem hjl)
        have HX := Lib.hid (And.intro hx hmj)
        have b0 : (0 : Int) ≤ (j : Int) := Int.natCast_nonneg _
        have b2 : (j : Int) < (n : Int) := by omega
        have b3 : decide (j < n) = true := decide_eq_true hlt
        clear hx
        generalize l[j] = f at *
        have ha := may_all hmj
        clear hmj
        obtain ⟨nd, pt, dp, x, y, p, q, t⟩ := f
        simp only at *
        obtain ⟨q1, rfl⟩ : ∃ q : Nat, nd = (q : Int) := ⟨nd.toNat, by omega⟩
        obtain ⟨q2, rfl⟩ : ∃ q : Nat, pt = (q : Int) := ⟨pt.toNat, by omega⟩
        obtain ⟨q3, rfl⟩ : ∃ q : Nat, dp = (q : Int) := ⟨dp.toNat, by omega⟩
        have f1 : IntKind.u64.wrap (q1 : Int) = (q1 : Int) := IntWalk.u64_in _ (by omega)
        have f2 : IntKind.u64.wrap (q2 : Int) = (q2 : Int) := IntWalk.u64_in _ (by omega)
        have f3 : IntKind.u64.wrap (q3 : Int) = (q3 : Int) := IntWalk.u64_in _ (by omega)
        have HA := Lib.hid ha
        clear ha
        go_wp2_with fail
        have HB1 : Hid (Blk (wr.alloc (.cells #[.int .i64 (q1 : Int), .int .i64 (q2 : Int), .int .i64 (q3 : Int), .int .i64 x, .int .i64 y, .int .i64 p, .int .i64 q, .string t] 65)) wr.heap.size 65 #[.int .i64 (q1 : Int), .int .i64 (q2 : Int), .int .i64 (q3 : Int), .int .i64 x, .int .i64 y, .int .i64 p, .int .i64 q, .string t] ∧
          Below wr.heap.size wr (wr.alloc (.cells #[.int .i64 (q1 : Int), .int .i64 (q2 : Int), .int .i64 (q3 : Int), .int .i64 x, .int .i64 y, .int .i64 p, .int .i64 q, .string t] 65))) := ⟨Blk.new _ _ _, below_1 _ _⟩
        clear c0 c1 c2 c3 c4 c5 c6 c7
        generalize wr.alloc (.cells #[.int .i64 (q1 : Int), .int .i64 (q2 : Int), .int .i64 (q3 : Int), .int .i64 x, .int .i64 y, .int .i64 p, .int .i64 q, .string t] 65) = W1 at *
        generalize wr = W0 at *
        generalize gk = g0 at *
        go_loopg [9, 43] 3 (fun g vl vj wr => ∃ (j : Nat) (A2 : Option Addr) (n2 c2 : Nat), vj = .int .i64 (j : Int) ∧ vl = .slice A2 n2 c2 ∧ 3 ≤ j + g ∧ j ≤ 3 ∧ Hid (LP W1 wr ((three q1 q2 q3).take j) A2 n2 c2))
        case atStart => exact ⟨0, none, 0, 0, rfl, rfl, by omega, by omega, OwnA.nil_ _ _ _ _, Below.refl _ _, fun k hk => by cases hk⟩
        case round =>
          obtain ⟨j1, A2, n2, c2, rfl, rfl, hg1, hj3, hP⟩ := hrel
          obtain ⟨x0, x1, x2⟩ := run_ix3 (q1 : Int) (q2 : Int) (q3 : Int) wr
          obtain rfl | rfl | rfl | rfl : j1 = 0 ∨ j1 = 1 ∨ j1 = 2 ∨ j1 = 3 := by omega
          · go_wp2_with (at_builtin; refine wpList_append_a _ rfl _ _ _ rfl 38 j0 _ 5 72 Try.underlying22 hj hy0 hy1 hy2 rfl (by decide) Wr.cells_len Wr.cells_one _ (([] : List Wr)) (by rfl) (hP.out.own.alloc _) _ (some ⟨wr.heap.size, 0, none⟩) [mkN q1] 1 1 (by rfl) rfl (lit_list wr [mkN q1] 38 Wr.cells_len) (by simp [maxLen, three, four]) (by simp [three, four]) ?_; intro v' w5 hown' hchg hat; obtain ⟨A5, n5, c5, rfl, hn5, hle5, hmx5, hnil5⟩ := hown'.form; have HN := Lib.hid (hP.out.next hown' hchg hat); clear hown' hchg hat)
            go_roundg (gk - 1)
            case measure => omega
            case rel => exact ⟨1, A5, n5, c5, by go_num, rfl, by omega, by omega, HN.out⟩
          · go_wp2_with (at_builtin; refine wpList_append_a _ rfl _ _ _ rfl 38 j0 _ 5 72 Try.underlying22 hj hy0 hy1 hy2 rfl (by decide) Wr.cells_len Wr.cells_one _ ([mkN q1]) (by rfl) (hP.out.own.alloc _) _ (some ⟨wr.heap.size, 0, none⟩) [mkN q2] 1 1 (by rfl) rfl (lit_list wr [mkN q2] 38 Wr.cells_len) (by simp [maxLen, three, four]) (by simp [three, four]) ?_; intro v' w5 hown' hchg hat; obtain ⟨A5, n5, c5, rfl, hn5, hle5, hmx5, hnil5⟩ := hown'.form; have HN := Lib.hid (hP.out.next hown' hchg hat); clear hown' hchg hat)
            go_roundg (gk - 1)
            case measure => omega
            case rel => exact ⟨2, A5, n5, c5, by go_num, rfl, by omega, by omega, HN.out⟩
          · go_wp2_with (at_builtin; refine wpList_append_a _ rfl _ _ _ rfl 38 j0 _ 5 72 Try.underlying22 hj hy0 hy1 hy2 rfl (by decide) Wr.cells_len Wr.cells_one _ ([mkN q1, mkN q2]) (by rfl) (hP.out.own.alloc _) _ (some ⟨wr.heap.size, 0, none⟩) [mkN q3] 1 1 (by rfl) rfl (lit_list wr [mkN q3] 38 Wr.cells_len) (by simp [maxLen, three, four]) (by simp [three, four]) ?_; intro v' w5 hown' hchg hat; obtain ⟨A5, n5, c5, rfl, hn5, hle5, hmx5, hnil5⟩ := hown'.form; have HN := Lib.hid (hP.out.next hown' hchg hat); clear hown' hchg hat)
            go_roundg (gk - 1)
            case measure => omega
            case rel => exact ⟨3, A5, n5, c5, by go_num, rfl, by omega, by omega, HN.out⟩
          · clear x0 x1 x2
            have hP1 : Hid (LP W1 wr (three q1 q2 q3 ++ (four x y p q).take 0) A2 n2 c2) := hP
            have k3 := (HB1.out.1.ext hP.out.be).cell 3
            have k4 := (HB1.out.1.ext hP.out.be).cell 4
            have k5 := (HB1.out.1.ext hP.out.be).cell 5
            have k6 := (HB1.out.1.ext hP.out.be).cell 6
            simp only [List.getElem?_toArray, List.getElem?_cons_zero, List.getElem?_cons_succ] at k3 k4 k5 k6
            go_wp2_with fail
            clear k3 k4 k5 k6 hP
            generalize wr = W2 at *
            generalize gk = g1 at *
            go_loopg [9, 62] 4 (fun g vl vj wr => ∃ (j : Nat) (A2 : Option Addr) (n2 c2 : Nat), vj = .int .i64 (j : Int) ∧ vl = .slice A2 n2 c2 ∧ 4 ≤ j + g ∧ j ≤ 4 ∧ Hid (LP W1 wr (three q1 q2 q3 ++ (four x y p q).take j) A2 n2 c2))
            case atStart => exact ⟨0, A2, n2, c2, rfl, rfl, by omega, by omega, hP1⟩
            case round =>
              clear hP1
              obtain ⟨j2, A2, n2, c2, rfl, rfl, hg2, hj4, hP⟩ := hrel
              obtain ⟨x0, x1, x2, x3⟩ := run_ix4 x y p q wr
              obtain rfl | rfl | rfl | rfl | rfl : j2 = 0 ∨ j2 = 1 ∨ j2 = 2 ∨ j2 = 3 ∨ j2 = 4 := by omega
              · go_wp2_with (at_builtin; refine wpList_append_a _ rfl _ _ _ rfl 38 j0 _ 5 72 Try.underlying22 hj hy0 hy1 hy2 rfl (by decide) Wr.cells_len Wr.cells_one _ (three q1 q2 q3 ++ []) (by rfl) (hP.out.own.alloc _) _ (some ⟨wr.heap.size, 0, none⟩) [mkI x] 1 1 (by rfl) rfl (lit_list wr [mkI x] 38 Wr.cells_len) (by simp [maxLen, three, four]) (by simp [three, four]) ?_; intro v' w5 hown' hchg hat; obtain ⟨A5, n5, c5, rfl, hn5, hle5, hmx5, hnil5⟩ := hown'.form; have HN := Lib.hid (hP.out.next hown' hchg hat); clear hown' hchg hat)
                go_roundg (gk - 1)
                case measure => omega
                case rel => exact ⟨1, A5, n5, c5, by go_num, rfl, by omega, by omega, HN.out⟩
              · go_wp2_with (at_builtin; refine wpList_append_a _ rfl _ _ _ rfl 38 j0 _ 5 72 Try.underlying22 hj hy0 hy1 hy2 rfl (by decide) Wr.cells_len Wr.cells_one _ (three q1 q2 q3 ++ [mkI x]) (by rfl) (hP.out.own.alloc _) _ (some ⟨wr.heap.size, 0, none⟩) [mkI y] 1 1 (by rfl) rfl (lit_list wr [mkI y] 38 Wr.cells_len) (by simp [maxLen, three, four]) (by simp [three, four]) ?_; intro v' w5 hown' hchg hat; obtain ⟨A5, n5, c5, rfl, hn5, hle5, hmx5, hnil5⟩ := hown'.form; have HN := Lib.hid (hP.out.next hown' hchg hat); clear hown' hchg hat)
                go_roundg (gk - 1)
                case measure => omega
                case rel => exact ⟨2, A5, n5, c5, by go_num, rfl, by omega, by omega, HN.out⟩
              · go_wp2_with (at_builtin; refine wpList_append_a _ rfl _ _ _ rfl 38 j0 _ 5 72 Try.underlying22 hj hy0 hy1 hy2 rfl (by decide) Wr.cells_len Wr.cells_one _ (three q1 q2 q3 ++ [mkI x, mkI y]) (by rfl) (hP.out.own.alloc _) _ (some ⟨wr.heap.size, 0, none⟩) [mkI p] 1 1 (by rfl) rfl (lit_list wr [mkI p] 38 Wr.cells_len) (by simp [maxLen, three, four]) (by simp [three, four]) ?_; intro v' w5 hown' hchg hat; obtain ⟨A5, n5, c5, rfl, hn5, hle5, hmx5, hnil5⟩ := hown'.form; have HN := Lib.hid (hP.out.next hown' hchg hat); clear hown' hchg hat)
                go_roundg (gk - 1)
                case measure => omega
                case rel => exact ⟨3, A5, n5, c5, by go_num, rfl, by omega, by omega, HN.out⟩
              · go_wp2_with (at_builtin; refine wpList_append_a _ rfl _ _ _ rfl 38 j0 _ 5 72 Try.underlying22 hj hy0 hy1 hy2 rfl (by decide) Wr.cells_len Wr.cells_one _ (three q1 q2 q3 ++ [mkI x, mkI y, mkI p]) (by rfl) (hP.out.own.alloc _) _ (some ⟨wr.heap.size, 0, none⟩) [mkI q] 1 1 (by rfl) rfl (lit_list wr [mkI q] 38 Wr.cells_len) (by simp [maxLen, three, four]) (by simp [three, four]) ?_; intro v' w5 hown' hchg hat; obtain ⟨A5, n5, c5, rfl, hn5, hle5, hmx5, hnil5⟩ := hown'.form; have HN := Lib.hid (hP.out.next hown' hchg hat); clear hown' hchg hat)
                go_roundg (gk - 1)
                case measure => omega
                case rel => exact ⟨4, A5, n5, c5, by go_num, rfl, by omega, by omega, HN.out⟩
              · clear x0 x1 x2 x3
                have k7 := (HB1.out.1.ext hP.out.be).cell 7
                simp only [List.getElem?_toArray, List.getElem?_cons_zero, List.getElem?_cons_succ] at k7
                have hcv := conv8 t
                go_wp2_with (at_builtin; have hP7 := Lib.hid (And.intro (LP.ext hP.out (bytes_world wr t).1) (bytes_world wr t)); clear hcv; generalize Lib.bytesWorld wr 5 t = w7 at *; generalize grownCap wr t.size 0 5 = cap7 at *; refine wpList_append_a _ rfl _ _ _ rfl 38 j0 _ 5 72 Try.underlying22 hj hy0 hy1 hy2 rfl (by decide) Wr.cells_len Wr.cells_one _ (three q1 q2 q3 ++ four x y p q) (by rfl) (hP7.out.1.own.alloc _) _ (some ⟨w7.heap.size, 0, none⟩) (tBy t wr.heap.size cap7) 1 1 (by rfl) rfl (lit_list w7 (tBy t wr.heap.size cap7) 38 Wr.cells_len) (by simp [maxLen, three, four, tBy]) (by simp [three, four, tBy]) ?_; intro v' w5 hown' hchg hat; obtain ⟨A5, n5, c5, rfl, hn5, hle5, hmx5, hnil5⟩ := hown'.form; have HN := Lib.hid (And.intro (hP7.out.1.next hown' hchg hat) (text_up hP.out hP7.out.2.1 hP7.out.2.2 hchg)); clear hown' hchg hat)
                refine (put8 q1 q2 q3 x y p q t wr.heap.size cap7 A5 n5 c5 w5 HN.out.1.own HX.out.2 HN.out.2).mono ?_; rintro e w8 ⟨hb8, A8, n8, c8, rfl, ho8, hf8⟩
                have HW8 : Hid (Below W0.heap.size W0 w8) := ext_under (ext_under HB1.out.2 (Nat.le_refl _) HN.out.1.be) (Nat.le_refl _) hb8
                have hl1 : Hid ((putW l.length ++ (l.take j).flatMap rowB).length + (rowB ⟨(q1 : Int), (q2 : Int), (q3 : Int), x, y, p, q, t⟩).length ≤ 10000000000) := by
                  have h1 := hI.out.len
                  have h2 := rowB_len HX.out.2
                  have h3 := hn2.out
                  rw [Hid]; omega
                have hl2 : Hid ((putW l.length ++ (l.take j).flatMap rowB).length + (rowB ⟨(q1 : Int), (q2 : Int), (q3 : Int), x, y, p, q, t⟩).length ≤ maxLen) := by have := hl1.out; rw [Hid]; unfold maxLen; omega
                have hl3 : Hid (((putW l.length ++ (l.take j).flatMap rowB).length + (rowB ⟨(q1 : Int), (q2 : Int), (q3 : Int), x, y, p, q, t⟩).length) * 1 ≤ 140737488355328) := by have := hl1.out; rw [Hid]; omega
                have HO8 := Lib.hid ho8
                clear hb8 ho8 hf8 k7 hP7 hP
                generalize hacc : putW l.length ++ (l.take j).flatMap rowB = acc at *
                go_wp2_with (at_builtin; refine wpList_append_a _ rfl _ _ _ rfl 5 i0 _ 1 1 Try.underlying25 hi hz hz1 hz2 rfl (by decide) encB_len encB_one _ acc (by rfl) (by rw [← hacc]; exact hI.out.own.ext HW8.out) _ A8 (rowB ⟨(q1 : Int), (q2 : Int), (q3 : Int), x, y, p, q, t⟩) n8 c8 (by rfl) HO8.out.len (HO8.out.sl encB_len) hl2.out hl3.out ?_; intro v' w9 hown' hchg hat; obtain ⟨A9, n9, c9, rfl, hn9, hle9, hmx9, hnil9⟩ := hown'.form; rw [← hacc] at hown'; have HN9 := Lib.hid (hI.out.next HX.out.1 HX.out.2 HW8.out hown' hchg hat); clear hown' hchg hat)
                go_roundg (g0 - 1)
                case measure => omega
                case rel => exact ⟨j + 1, A9, n9, c9, by go_num, rfl, by omega, by omega, HN9⟩
      · have hb2 : ¬ (j : Int) < (n : Int) := by omega
        have b3 : decide (j < n) = false := decide_eq_false hlt
        have hout : Hid (putW l.length ++ (l.take j).flatMap rowB = outF l) := by
          rw [Hid, List.take_of_length_le (by rw [← hn.out]; omega)]; rfl
        have hown : OwnA wr 5 1 encB (.slice Ao no co) (outF l) := by rw [← hout.out]; exact hI.out.own
        have hno : Hid (no = (outF l).length) := hown.len
        obtain ⟨A0, n0, c0, hv, _, hle, hmx, hnil⟩ := hown.form
        cases hv
        have HO := Lib.hid hown
        clear hown
        by_cases hbig : 262144 < no
        · have d1 : decide ((262144 : Int) < (no : Int)) = true := decide_eq_true (by omega)
          have he : Hid (printF l = ([], 3)) := by rw [Hid, printF, if_pos HL.out.2, if_pos (by rw [← hno.out]; exact hbig)]
          go_wp2
          refine bodyPost_ret (v := .tuple #[.slice none 0 0, .int .i64 3]) (by simp [results, Try.results44, go_sem]) rfl ?_
          rw [he.out]
          exact RetPut.err hI.out.be 3 rfl
        · have d1 : decide ((262144 : Int) < (no : Int)) = false := decide_eq_false (by omega)
          have he : Hid (printF l = (outF l, 0)) := by rw [Hid, printF, if_pos HL.out.2, if_neg (by rw [← hno.out]; exact hbig)]
          have hs := Lib.hid (OwnA.take encB_len HO.out no no (by rw [hno.out]; exact Nat.le_refl _) (Nat.le_refl _) hle)
          go_wp2
          refine bodyPost_ret (v := .tuple #[.slice Ao no no, .int .i64 0]) (by simp [results, Try.results44, go_sem]) rfl ?_
          rw [he.out]
          refine ⟨hI.out.be, Ao, no, no, rfl, ?_, fun k hk => hI.out.fr k (by rw [own_block Ao no co no no]; exact hk)⟩
          have h2 := hs.out
          rwa [show (outF l).take no = outF l from List.take_of_length_le (by rw [hno.out]; exact Nat.le_refl _)] at h2
  · have he : Hid (printF l = ([], chk l)) := by rw [Hid, printF, if_neg hc]
    have hne : (chk l != 0) = true := by simpa using hc
    have HC := Lib.hid hck
    clear hck hl hc
    generalize chk l = cz at *
    go_enter Try.func44, Try.ntmps44
    go_wp2_with fail
    refine HC.out.mono ?_; rintro e w1 ⟨rfl, hb1⟩
    go_wp2
    refine bodyPost_ret (v := .tuple #[.slice none 0 0, .int .i64 cz]) (by simp [results, Try.results44, go_sem]) rfl ?_
    rw [he.out]
    exact RetPut.err hb1 cz rfl
end Go.Proofs.Ytoneechcclndaaa.FForm
