/- frag: the document's Parent, End. -/
import Derived.Test.YtfpdiblnbbhhmaaRTree
import Derived.Outline
import Derived.BigQuiet
import Derived.Deep.QuietTactic
import Derived.Deep.RegionWith
import Derived.Deep.RegionHeld3
import Derived.Deep.DrawnRows
import Derived.Deep.LoopGhost
import Derived.Deep.DeepCutAuto
import Derived.Laws.EntriesVeiled
namespace Go.Proofs.Ytfpdiblnbbhhmaa.RTree
open Go.RowKit Go.ChangeShapes Go.WideShapes Go.ChangeAt
set_option linter.unusedVariables false
set_option linter.unusedSimpArgs false
attribute [local go_sem ↓] Go.wp_at_zero Go.wp_at_succ
open FragA FragB MayA Tree FCheck

set_option maxHeartbeats 1600000 in
theorem rparent_any (l : List Fr) (A : Option Addr) (n cap : Nat) (i : Int) (w : World) (hl : FrSl w w.heap.size A l) (hw : FrsWf l) (hn : Hid (n = l.length)) (hmax : Hid (n ≤ maxLen)) :
    Calls Try.prog 24 #[.slice A n cap, .int .i64 i] w fun e w' => e = .returned (.int .i64 (parentOf l i)) ∧ Below w.heap.size w w' := by
  have h63 := hmax.out
  unfold maxLen at h63
  by_cases h1 : i < 0
  · have he := Lib.hid (show parentOf l i = -1 by rw [parentOf, if_pos (.inl h1)])
    go_enter Try.func24, Try.ntmps24
    go_wp2
    go_ret
    exact ⟨ret_int he.out.symm, Below.refl _ _⟩
  · by_cases h2 : (n : Int) ≤ i
    · have he := Lib.hid (show parentOf l i = -1 by rw [parentOf, if_pos (.inr (.inl (by rw [← hn.out]; exact h2)))])
      go_enter Try.func24, Try.ntmps24
      go_wp2
      go_ret
      exact ⟨ret_int he.out.symm, Below.refl _ _⟩
    · cases hc : (chk l == 0) with
      | false =>
        have he := Lib.hid (show parentOf l i = -1 by rw [parentOf, if_pos (.inr (.inr (by simpa using hc)))])
        have hc' : (chk l != 0) = true := by rw [bne, hc]; rfl
        go_enter Try.func24, Try.ntmps24
        go_wp2_with (go_at_call 22; refine (rcheck_any l A n cap _ hl hw hn hmax.out).mono ?_; rintro e w1 ⟨rfl, hb1⟩)
        go_ret
        exact ⟨ret_int he.out.symm, hb1⟩
      | true =>
        have hc' : (chk l != 0) = false := by rw [bne, hc]; rfl
        obtain ⟨q, rfl⟩ : ∃ q : Nat, i = (q : Int) := ⟨i.toNat, by omega⟩
        have hql : q < l.length := by rw [← hn.out]; omega
        have hx : l[q]? = some l[q] := List.getElem?_eq_getElem hql
        have h00 : chk l = 0 := by simpa using hc
        have he := Lib.hid (show parentOf l (q : Int) = lastBefore l ((l[q]).depth - 1) q by
          rw [parentOf, if_neg (by have := hn.out; omega)]
          simp only [Int.toNat_natCast, hx])
        have hdr := okAt_range hx ((allOk_iff l).1 (chk_zero h00).1 q hql)
        clear h00
        go_enter Try.func24, Try.ntmps24
        go_wp2_with (go_at_call 22; refine (rcheck_any l A n cap _ hl hw hn hmax.out).mono ?_; rintro e w1 ⟨rfl, hb1⟩)
        go_loopg [5] (q + 1) (fun g v wr => ∃ (k : Nat) (vi : Int), k + 1 ≤ g + 1 ∧ k ≤ q ∧ (k : Int) = vi + 1 ∧ v = .int .i64 vi ∧ Hid (parentOf l (q : Int) = lastBefore l ((l[q]).depth - 1) k) ∧ Below w.heap.size w wr)
        case atStart => exact ⟨q, (q : Int) - 1, by omega, by omega, by omega, by go_num, he, hb1⟩
        case round =>
          obtain ⟨k, vi, hg, hkq, hvi, rfl, hf, hB⟩ := hrel
          by_cases hk0 : k = 0
          · subst hk0
            obtain rfl : vi = -1 := by omega
            have hend := Lib.hid (show lastBefore l ((l[q]).depth - 1) 0 = -1 from rfl)
            go_wp2
            go_ret
            exact ⟨ret_int (by rw [hf.out, hend.out]), hB⟩
          · obtain ⟨j, rfl⟩ : ∃ j : Nat, vi = (j : Int) := ⟨vi.toNat, by omega⟩
            obtain rfl : k = j + 1 := by omega
            have hjl : j < l.length := by omega
            have hxj : l[j]? = some l[j] := List.getElem?_eq_getElem hjl
            obtain ⟨b, off, rfl, hbb, hcell⟩ := (hl.below hB) (by rintro rfl; simp at hql)
            have cj := hcell j _ hxj 2 _ rfl
            have cq := hcell q _ hx 2 _ rfl
            have b1 : (0 : Int) ≤ (j : Int) := Int.natCast_nonneg _
            have b2 : (j : Int) < (n : Int) := by rw [hn.out]; omega
            have b3 : (0 : Int) ≤ (q : Int) := Int.natCast_nonneg _
            have b4 : (q : Int) < (n : Int) := by omega
            have hstep := Lib.hid (show lastBefore l ((l[q]).depth - 1) (j + 1) = if (l[j]).depth = (l[q]).depth - 1 then (j : Int) else lastBefore l ((l[q]).depth - 1) j by
              rw [lastBefore, hxj])
            clear hx hxj hcell he hvi hk0
            generalize l[q] = fq at *
            generalize l[j] = fj at *
            have w1 : IntKind.i64.wrap (fq.depth - 1) = fq.depth - 1 := IntWalk.i64_in _ (by omega)
            by_cases hd : fj.depth = fq.depth - 1
            · have hd' : (fj.depth == fq.depth - 1) = true := by simpa using hd
              have HD := Lib.hid hd
              clear hd
              go_wp2
              go_quiet (fail)
              go_wp2
              go_ret
              exact ⟨ret_int (by rw [hf.out, hstep.out, if_pos HD.out]), bdrewN hB _⟩
            · have hd' : (fj.depth == fq.depth - 1) = false := by simpa using hd
              have HD := Lib.hid hd
              clear hd
              go_wp2
              go_quiet (fail)
              go_wp2
              go_roundg (gk - 1)
              case measure => omega
              case rel => exact ⟨j, (j : Int) - 1, by omega, by omega, by omega, by go_num, by rw [Hid, hf.out, hstep.out, if_neg HD.out], bdrewN hB _⟩

set_option maxHeartbeats 1600000 in
theorem rend_any (l : List Fr) (A : Option Addr) (n cap : Nat) (i : Int) (w : World) (hl : FrSl w w.heap.size A l) (hw : FrsWf l) (hn : Hid (n = l.length)) (hmax : Hid (n ≤ maxLen)) :
    Calls Try.prog 26 #[.slice A n cap, .int .i64 i] w fun e w' => e = .returned (.int .i64 (endOf l i)) ∧ Below w.heap.size w w' := by
  have h63 := hmax.out
  unfold maxLen at h63
  by_cases h1 : i < 0
  · have he := Lib.hid (show endOf l i = 0 by rw [endOf, if_pos (.inl h1)])
    go_enter Try.func26, Try.ntmps26
    go_wp2
    go_ret
    exact ⟨ret_int he.out.symm, Below.refl _ _⟩
  · by_cases h2 : (n : Int) ≤ i
    · have he := Lib.hid (show endOf l i = 0 by rw [endOf, if_pos (.inr (.inl (by rw [← hn.out]; exact h2)))])
      go_enter Try.func26, Try.ntmps26
      go_wp2
      go_ret
      exact ⟨ret_int he.out.symm, Below.refl _ _⟩
    · cases hc : (chk l == 0) with
      | false =>
        have he := Lib.hid (show endOf l i = 0 by rw [endOf, if_pos (.inr (.inr (by simpa using hc)))])
        have hc' : (chk l != 0) = true := by rw [bne, hc]; rfl
        go_enter Try.func26, Try.ntmps26
        go_wp2_with (go_at_call 22; refine (rcheck_any l A n cap _ hl hw hn hmax.out).mono ?_; rintro e w1 ⟨rfl, hb1⟩)
        go_ret
        exact ⟨ret_int he.out.symm, hb1⟩
      | true =>
        have hc' : (chk l != 0) = false := by rw [bne, hc]; rfl
        obtain ⟨q, rfl⟩ : ∃ q : Nat, i = (q : Int) := ⟨i.toNat, by omega⟩
        have hql : q < l.length := by rw [← hn.out]; omega
        have hx : l[q]? = some l[q] := List.getElem?_eq_getElem hql
        have he := Lib.hid (show endOf l (q : Int) = endFrom l (l[q]).depth (l.length - (q + 1)) (q + 1) by
          rw [endOf, if_neg (by have := hn.out; have : chk l = 0 := by simpa using hc
                                omega)]
          simp only [Int.toNat_natCast, hx])
        go_enter Try.func26, Try.ntmps26
        go_wp2_with (go_at_call 22; refine (rcheck_any l A n cap _ hl hw hn hmax.out).mono ?_; rintro e w1 ⟨rfl, hb1⟩)
        go_loopg [5] n (fun g v wr => ∃ j : Nat, n ≤ j + g ∧ q < j ∧ j ≤ n ∧ v = .int .i64 j ∧ Hid (endOf l (q : Int) = endFrom l (l[q]).depth (l.length - j) j) ∧ Below w.heap.size w wr)
        case atStart => exact ⟨q + 1, by omega, by omega, by omega, by go_num, he, hb1⟩
        case round =>
          obtain ⟨j, hg, hqj, hjn, rfl, hf, hB⟩ := hrel
          by_cases hlt : j < n
          · have hjl : j < l.length := by rw [← hn.out]; exact hlt
            have hxj : l[j]? = some l[j] := List.getElem?_eq_getElem hjl
            obtain ⟨b, off, rfl, hbb, hcell⟩ := (hl.below hB) (by rintro rfl; simp at hql)
            have cj := hcell j _ hxj 2 _ rfl
            have cq := hcell q _ hx 2 _ rfl
            have b1 : (0 : Int) ≤ (j : Int) := Int.natCast_nonneg _
            have b2 : (j : Int) < (n : Int) := by omega
            have b3 : (0 : Int) ≤ (q : Int) := Int.natCast_nonneg _
            have b4 : (q : Int) < (n : Int) := by omega
            have hstep := Lib.hid (show endFrom l (l[q]).depth (l.length - j) j = if (l[q]).depth < (l[j]).depth then endFrom l (l[q]).depth (l.length - (j + 1)) (j + 1) else j by
              rw [show l.length - j = (l.length - (j + 1)) + 1 from by omega, endFrom, hxj])
            clear hx hxj hcell he
            generalize l[q] = fq at *
            generalize l[j] = fj at *
            have hguard : decide ((j : Int) < (n : Int)) = true := by simpa using hlt
            by_cases hd : fj.depth ≤ fq.depth
            · have hd' : decide (fj.depth ≤ fq.depth) = true := by simpa using hd
              have HD := Lib.hid hd
              go_wp2
              go_quiet (fail)
              go_wp2
              go_ret
              exact ⟨ret_int (by rw [hf.out, hstep.out, if_neg (by have := HD.out; omega)]), bdrewN hB _⟩
            · have hd' : decide (fj.depth ≤ fq.depth) = false := by simpa using hd
              have HD := Lib.hid (show fq.depth < fj.depth by omega)
              go_wp2
              go_quiet (fail)
              go_wp2
              go_roundg (gk - 1)
              case measure => omega
              case rel => exact ⟨j + 1, by omega, by omega, by omega, by go_num, by rw [Hid, hf.out, hstep.out, if_pos HD.out], bdrewN hB _⟩
          · have hguard : decide ((j : Int) < (n : Int)) = false := by simpa using hlt
            go_wp2
            go_ret
            exact ⟨ret_int (by rw [hf.out, show l.length - j = 0 from by rw [← hn.out]; omega]; simp [endFrom]; omega), hB⟩
end Go.Proofs.Ytfpdiblnbbhhmaa.RTree
