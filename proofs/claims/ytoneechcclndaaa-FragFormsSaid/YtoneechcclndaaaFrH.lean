/- frag: the document's Row, Print. -/
import Derived.Test.YtoneechcclndaaaFrG
import Derived.Test.YtoneechcclndaaaRPutC
import Derived.Outline
import Derived.BigQuiet
import Derived.Deep.QuietTactic
import Derived.Deep.RegionWith
import Derived.Deep.RegionHeld3
import Derived.Deep.DrawnRows
import Derived.Deep.LoopGhost
import Derived.Deep.DeepCutAuto
import Derived.Laws.EntriesVeiled
namespace Go.Proofs.Ytoneechcclndaaa.FForm
open Go.RowKit Go.ChangeShapes Go.WideShapes Go.ChangeAt
set_option linter.unusedVariables false
set_option linter.unusedSimpArgs false
attribute [local go_sem ↓] Go.wp_at_zero Go.wp_at_succ
open Go.Shelf Go.Proofs.Ytoneechcclndaaa.Word Go.Proofs.Ytoneechcclndaaa.Wire Go.Proofs.Ytoneechcclndaaa.Msg FragA FragB MayA Tree FCheck lawTorn FTr

def eight8 (q1 q2 q3 : Nat) (x y p q : Int) (t : ByteArray) (g c : Nat) : List Wr := (three q1 q2 q3 ++ four x y p q) ++ tBy t g c
/-- what Row leaves -/
def RetRow (w : World) (f : Fr) (e : Ending) (w' : World) : Prop := Below w.heap.size w w' ∧ ∃ A n c rs, e = .returned (.slice A n c) ∧ rs.map Wr.v = rowV f ∧ VRd w' A n rs
set_option maxHeartbeats 8000000 in
set_option maxRecDepth 100000 in
theorem rrow20_any (f : Fr) (w : World) (hm : mayB f = true) : Calls Try.prog 76 #[f.agg] w (RetRow w f) := by
  have ha := may_all hm
  obtain ⟨nd, pt, dp, x, y, p, q, t⟩ := f
  simp only at ha
  obtain ⟨q1, rfl⟩ : ∃ q : Nat, nd = (q : Int) := ⟨nd.toNat, by omega⟩
  obtain ⟨q2, rfl⟩ : ∃ q : Nat, pt = (q : Int) := ⟨pt.toNat, by omega⟩
  obtain ⟨q3, rfl⟩ : ∃ q : Nat, dp = (q : Int) := ⟨dp.toNat, by omega⟩
  have f1 : IntKind.u64.wrap (q1 : Int) = (q1 : Int) := IntWalk.u64_in _ (by omega)
  have f2 : IntKind.u64.wrap (q2 : Int) = (q2 : Int) := IntWalk.u64_in _ (by omega)
  have f3 : IntKind.u64.wrap (q3 : Int) = (q3 : Int) := IntWalk.u64_in _ (by omega)
  have hcv := conv8 t
  have HA := Lib.hid ha
  clear ha hm
  unfold Fr.agg
  go_enter Try.func76, Try.ntmps76
  go_wp2
  go_ret
  have hbw := bytes_world (w.alloc (.cells #[.int .i64 (q1 : Int), .int .i64 (q2 : Int), .int .i64 (q3 : Int), .int .i64 x, .int .i64 y, .int .i64 p, .int .i64 q, .string t] 65)) t
  generalize grownCap (w.alloc (.cells #[.int .i64 (q1 : Int), .int .i64 (q2 : Int), .int .i64 (q3 : Int), .int .i64 x, .int .i64 y, .int .i64 p, .int .i64 q, .string t] 65)) t.size 0 5 = gc at *
  have hb1 : Below w.heap.size w (Lib.bytesWorld (w.alloc (.cells #[.int .i64 (q1 : Int), .int .i64 (q2 : Int), .int .i64 (q3 : Int), .int .i64 x, .int .i64 y, .int .i64 p, .int .i64 q, .string t] 65)) 5 t) := ext_under (below_1 w _) (Nat.le_refl _) hbw.1
  have hb2 := hbw.2
  rw [World.size_alloc] at hb2
  clear hbw
  generalize Lib.bytesWorld (w.alloc (.cells #[.int .i64 (q1 : Int), .int .i64 (q2 : Int), .int .i64 (q3 : Int), .int .i64 x, .int .i64 y, .int .i64 p, .int .i64 q, .string t] 65)) 5 t = W2 at *
  refine ⟨hb1.alloc hb1.size _, some ⟨W2.heap.size, 0, none⟩, 8, 8, eight8 q1 q2 q3 x y p q t (w.heap.size + 1) gc, rfl, rfl, ?_⟩
  refine ⟨lit_list W2 (eight8 q1 q2 q3 x y p q t (w.heap.size + 1) gc) 38 Wr.cells_len, rfl, fun r hr => ?_, by simp [eight8, three, four, tBy]⟩
  have h1 := HA.out
  have h9 : t.data.toList.length ≤ 256 := h1.2.2.2.2.2.2.2
  simp only [eight8, three, four, tBy, List.cons_append, List.nil_append, List.mem_cons, List.not_mem_nil, or_false] at hr
  rcases hr with rfl | rfl | rfl | rfl | rfl | rfl | rfl | rfl
  · exact mkN_rd _ _ (by unfold p64; omega)
  · exact mkN_rd _ _ (by unfold p64; omega)
  · exact mkN_rd _ _ (by unfold p64; omega)
  · exact mkI_rd _ _ (by omega) (by omega)
  · exact mkI_rd _ _ (by omega) (by omega)
  · exact mkI_rd _ _ (by omega) (by omega)
  · exact mkI_rd _ _ (by omega) (by omega)
  · exact ⟨hb2.ext (below_1 _ _), rfl, Sl.nil _ _ _ _ _, rfl, wv0_wf.1, wv0_wf.2.1, wv0_wf.2.2.1, wv0_wf.2.2.2.1, by simp only [mkY]; omega, wv0_wf.2.2.2.2.2⟩
theorem rhead_put (n : Nat) (w : World) (h : n ≤ 1000000) : Calls Try.prog 19 #[.string ⟨#[110]⟩, .slice (some ⟨w.heap.size, 0, none⟩) 1 1] (w.alloc (.cells (Wr.cells (mkN n)).toArray 38)) (RetPut (w.alloc (.cells (Wr.cells (mkN n)).toArray 38)) (putW n, 0)) := by
  have hr := rput4_any ⟨#[110]⟩ [mkN n] (some ⟨w.heap.size, 0, none⟩) 1 1 (w.alloc (.cells ([mkN n].flatMap Wr.cells).toArray 38)) (by decide) ⟨lit_list w [mkN n] 38 Wr.cells_len, rfl, fun r hr => by rw [List.mem_singleton] at hr; rw [hr]; exact mkN_rd _ _ (by unfold p64; omega), by simp⟩
  rw [show putP (⟨#[110]⟩ : ByteArray).data.toList ([mkN n].map Wr.v) = (putW n, 0) from head_putP n] at hr
  simpa using hr
theorem rrow_put (f : Fr) (A : Option Addr) (n c : Nat) (rs : List Wr) (w : World) (hm : mayB f = true) (hr : rs.map Wr.v = rowV f) (hv : VRd w A n rs) : Calls Try.prog 19 #[.string ⟨#[110, 110, 110, 105, 105, 105, 105, 98]⟩, .slice A n c] w (RetPut w (rowB f, 0)) := by
  have h := rput4_any ⟨#[110, 110, 110, 105, 105, 105, 105, 98]⟩ rs A n c w (by decide) hv
  rw [hr] at h
  rw [← row_putP hm]
  exact h
set_option maxHeartbeats 8000000 in
set_option maxRecDepth 100000 in
theorem rprint20_any (l : List Fr) (A : Option Addr) (n cap : Nat) (w : World) (hl : FrSl w w.heap.size A l) (hw : FrsWf l) (hn : Hid (n = l.length)) (h63 : n ≤ 100000000) : Calls Try.prog 47 #[.slice A n cap] w (RetPut w (printF l)) := by
  obtain ⟨i0, hi, hz, hz1, hz2⟩ := info_parts byInfo
  have hck := RTree.rcheck_any l A n cap w hl hw hn (by unfold maxLen; omega)
  by_cases hc : chk l = 0
  · rw [hc] at hck
    have HC := Lib.hid hck
    have HL := Lib.hid (And.intro hl hc)
    have hm := chk_may hc
    have HM := Lib.hid hm.2.2
    have hn2 : Hid (n ≤ 2048) := by rw [Hid, hn.out]; exact hm.2.1
    have e1 : IntKind.u64.wrap (n : Int) = (n : Int) := IntWalk.u64_in _ (by omega)
    clear hck hl hc hm
    go_enter Try.func47, Try.ntmps47
    go_wp2_with fail
    refine HC.out.mono ?_; rintro e w1 ⟨rfl, hb1⟩
    have HB := Lib.hid hb1
    clear hb1
    go_wp2_with fail
    refine (rhead_put n w1 (by have := hn2.out; omega)).mono ?_
    rintro e w2 ⟨hb2, A2, n2, c2, rfl, ho2, hf2⟩
    have HI : Hid (PrI w w2 l 0 A2 n2 c2) := by
      have h1 := two_up HB.out hb2
      have hlen : (putW n).length ≤ 10 := putW_len (p64_lt (by have := hn2.out; unfold p64; omega))
      rw [Hid]
      refine ⟨?_, h1, fun k hk => ?_, ?_⟩
      · rw [List.take_zero, List.flatMap_nil, List.append_nil, ← hn.out]; exact ho2
      · have h2 := hf2 k hk
        have h3 := HB.out.size
        rw [World.size_alloc] at h2
        omega
      · rw [List.take_zero, List.flatMap_nil, List.append_nil, ← hn.out]; omega
    clear hb2 ho2 hf2
    go_wp2_with fail
    go_loopg [5, 7] n (fun g vo vj wr => ∃ (j : Nat) (A2 : Option Addr) (n2 c2 : Nat), vj = .int .i64 (j : Int) ∧ vo = .slice A2 n2 c2 ∧ n ≤ j + g ∧ j ≤ n ∧ Hid (PrI w wr l j A2 n2 c2))
    case atStart => exact ⟨0, A2, n2, c2, rfl, rfl, by omega, by omega, HI⟩
    case round =>
      obtain ⟨j, Ao, no, co, rfl, rfl, hg, hjn, hI⟩ := hrel
      by_cases hlt : j < n
      · have hjl : j < l.length := by rw [← hn.out]; exact hlt
        have hx : l[j]? = some l[j] := List.getElem?_eq_getElem hjl
        obtain ⟨bb, off, rfl, hbb, c0, c1, c2, c3, c4, c5, c6, c7⟩ := FrSl.at_ (HL.out.1.below hI.out.be) hx
        have hmj := HM.out _ (List.getElem_mem hjl)
        have HX := Lib.hid (And.intro hx hmj)
        have b0 : (0 : Int) ≤ (j : Int) := Int.natCast_nonneg _
        have b2 : (j : Int) < (n : Int) := by omega
        have b3 : decide (j < n) = true := decide_eq_true hlt
        clear hx hmj
        generalize l[j] = f at *
        have hrow := rrow20_any f wr HX.out.2
        unfold Fr.agg at hrow
        have HROW := Lib.hid hrow
        clear hrow
        have hl1 : Hid ((putW l.length ++ (l.take j).flatMap rowB).length + (rowB f).length ≤ 10000000000) := by
          have h1 := hI.out.len
          have h2 := rowB_len HX.out.2
          have h3 := hn2.out
          rw [Hid]; omega
        have hl2 : Hid ((putW l.length ++ (l.take j).flatMap rowB).length + (rowB f).length ≤ maxLen) := by have := hl1.out; rw [Hid]; unfold maxLen; omega
        have hl3 : Hid (((putW l.length ++ (l.take j).flatMap rowB).length + (rowB f).length) * 1 ≤ 140737488355328) := by have := hl1.out; rw [Hid]; omega
        generalize hacc : putW l.length ++ (l.take j).flatMap rowB = acc at *
        have HACC := Lib.hid hacc
        clear hacc
        go_wp2_with fail
        refine HROW.out.mono ?_; rintro e w7 ⟨hb7, A7, n7, c7', rs, rfl, hrs, hvr⟩
        have HR := Lib.hid (And.intro hrs (And.intro hvr hb7))
        clear hb7 hrs hvr c0 c1 c2 c3 c4 c5 c6 c7
        go_wp2_with (first | (go_at_call 19; refine (rrow_put f _ _ _ rs _ HX.out.2 HR.out.1 HR.out.2.1).mono ?_; rintro e w8 ⟨hb8, A8, n8, c8, rfl, ho8, hf8⟩; have HW8 := Lib.hid (And.intro (ext_under HR.out.2.2 (Nat.le_refl _) hb8) ho8); clear hb8 ho8 hf8) | (at_builtin; refine wpList_append_a _ rfl _ _ _ rfl 5 i0 _ 1 1 Try.underlying25 hi hz hz1 hz2 rfl (by decide) encB_len encB_one _ acc (by rfl) (by rw [← HACC.out]; exact hI.out.own.ext HW8.out.1) _ A8 (rowB f) n8 c8 (by rfl) HW8.out.2.len (HW8.out.2.sl encB_len) hl2.out hl3.out ?_; intro v' w9 hown' hchg hat; obtain ⟨A9, n9, c9, rfl, hn9, hle9, hmx9, hnil9⟩ := hown'.form; rw [← HACC.out] at hown'; have HN9 := Lib.hid (hI.out.next HX.out.1 HX.out.2 HW8.out.1 hown' hchg hat); clear hown' hchg hat))
        go_roundg (gk - 1)
        case measure => omega
        case rel => exact ⟨j + 1, A9, n9, c9, by go_num, rfl, by omega, by omega, HN9⟩
      · have hb2 : ¬ (j : Int) < (n : Int) := by omega
        have b3 : decide (j < n) = false := decide_eq_false hlt
        have hout : Hid (putW l.length ++ (l.take j).flatMap rowB = outF l) := by
          rw [Hid, List.take_of_length_le (by rw [← hn.out]; omega)]; rfl
        have hown : OwnA wr 5 1 encB (.slice Ao no co) (outF l) := by rw [← hout.out]; exact hI.out.own
        have hno : Hid (no = (outF l).length) := hown.len
        have HO := Lib.hid hown
        clear hown
        by_cases hbig : 262144 < no
        · have d1 : decide ((262144 : Int) < (no : Int)) = true := decide_eq_true (by omega)
          have he : Hid (printF l = ([], 3)) := by rw [Hid, printF, if_pos HL.out.2, if_pos (by rw [← hno.out]; exact hbig)]
          go_wp2
          refine bodyPost_ret (v := .tuple #[.slice none 0 0, .int .i64 3]) (by simp [results, Try.results47, go_sem]) rfl ?_
          rw [he.out]
          exact RetPut.err hI.out.be 3 rfl
        · have d1 : decide ((262144 : Int) < (no : Int)) = false := decide_eq_false (by omega)
          have he : Hid (printF l = (outF l, 0)) := by rw [Hid, printF, if_pos HL.out.2, if_neg (by rw [← hno.out]; exact hbig)]
          go_wp2
          refine bodyPost_ret (v := .tuple #[.slice Ao no co, .int .i64 0]) (by simp [results, Try.results47, go_sem]) rfl ?_
          rw [he.out]
          exact ⟨hI.out.be, Ao, no, co, rfl, HO.out, fun k hk => hI.out.fr k hk⟩
  · have he : Hid (printF l = ([], chk l)) := by rw [Hid, printF, if_neg hc]
    have hne : (chk l != 0) = true := by simpa using hc
    have HC := Lib.hid hck
    clear hck hl hc
    generalize chk l = cz at *
    go_enter Try.func47, Try.ntmps47
    go_wp2_with fail
    refine HC.out.mono ?_; rintro e w1 ⟨rfl, hb1⟩
    go_wp2
    refine bodyPost_ret (v := .tuple #[.slice none 0 0, .int .i64 cz]) (by simp [results, Try.results47, go_sem]) rfl ?_
    rw [he.out]
    exact RetPut.err hb1 cz rfl
end Go.Proofs.Ytoneechcclndaaa.FForm
