/- sender: the document's Same, of pieces that are the same; the law's copied, pieces. -/
import Derived.Test.YtiljpbncfofnhaaRSendD
import Derived.Test.YtiljpbncfofnhaaSendJ
import Derived.Outline
import Derived.BigQuiet
import Derived.Deep.QuietTactic
import Derived.Deep.RegionWith
import Derived.Deep.RegionHeld3
import Derived.Deep.DrawnRows
import Derived.Deep.LoopGhost
import Derived.Deep.DeepCutAuto
import Derived.Laws.EntriesVeiled
import Derived.BigQuiet
namespace Go.Proofs.Ytiljpbncfofnhaa.Send
open Go.RowKit Go.ChangeShapes Go.WideShapes Go.ChangeAt
set_option linter.unusedVariables false
set_option linter.unusedSimpArgs false
attribute [local go_sem ↓] Go.wp_at_zero Go.wp_at_succ

theorem same_y (l : List UInt8) (A B : Option Addr) (n m ca cb : Nat) (w : World) (hl : BySl w w.heap.size A l) (hm : BySl w w.heap.size B l) (hn : Hid (n = l.length)) (hm' : Hid (m = l.length)) (h63 : l.length ≤ maxLen) :
    Calls Try.prog 19 #[.slice A n ca, .slice B m cb] w fun e w' => e = .returned (.bool true) ∧ ∃ n, w' = w.drewN n := by
  obtain rfl := hn.out
  obtain rfl := hm'.out
  refine (Bytes.same_any l l A B ca cb w hl hm h63 h63).mono ?_
  rintro e w' ⟨rfl, h⟩
  exact ⟨by rw [Bytes.eqB_self], h⟩
set_option maxHeartbeats 4000000 in
set_option maxRecDepth 100000 in
theorem same27_any (ps qs : List Pc) (A B : Option Addr) (n m ca cb : Nat) (w : World) (hl : Sl w w.heap.size 3 Pc.cells A ps) (hr : ∀ p ∈ ps, p.Rd w) (hl2 : Sl w w.heap.size 3 Pc.cells B qs) (hr2 : ∀ p ∈ qs, p.Rd w) (hn : Hid (n = ps.length)) (hm : Hid (m = qs.length)) (hnm : n ≤ 100000)
    (hc : ps.map Pc.core = qs.map Pc.core) : Calls Try.prog 20 #[.slice A n ca, .slice B m cb] w fun e w' => e = .returned (.bool true) ∧ ∃ k, w' = w.drewN k := by
  have hlen : ps.length = qs.length := by simpa using congrArg List.length hc
  obtain rfl : n = m := by rw [hn.out, hm.out, hlen]
  have HL := Lib.hid (And.intro (And.intro hl hr) (And.intro (And.intro hl2 hr2) hc))
  clear hl hr hl2 hr2 hc
  go_enter Try.func20, Try.ntmps20
  go_wp2
  go_loopg [5] n (fun gk v wr => ∃ (j k : Nat), n ≤ j + gk ∧ j ≤ n ∧ v = .int .i64 (j : Int) ∧ Hid (w.drewN k = wr))
  case atStart => exact ⟨0, 0, by omega, by omega, rfl, rfl⟩
  case round =>
    obtain ⟨j, k, hgk, hj, rfl, hw⟩ := hrel
    by_cases hlt : j < n
    · have hj1 : j < ps.length := by rw [← hn.out]; exact hlt
      have hj2 : j < qs.length := by rw [← hm.out]; exact hlt
      have hx := List.getElem?_eq_getElem hj1
      have hy := List.getElem?_eq_getElem hj2
      have hb : Below w.heap.size w wr := by rw [← hw.out]; exact bdrewN (Below.refl _ _) k
      obtain ⟨vb, vo, rfl, hvb, x0, x1, x2⟩ := pc_at (HL.out.1.1.ext hb) hx
      obtain ⟨ub, uo, rfl, hub, y0, y1, y2⟩ := pc_at (HL.out.2.1.1.ext hb) hy
      have R1 := Lib.hid ((HL.out.1.2 _ (List.getElem_mem hj1)).ext hb)
      have R2 := Lib.hid ((HL.out.2.1.2 _ (List.getElem_mem hj2)).ext hb)
      have hcc : (ps[j]).core = (qs[j]).core := by
        have := congrArg (fun l => l[j]?) HL.out.2.2
        simp only [List.getElem?_map, hx, hy, Option.map_some, Option.some.injEq] at this
        exact this
      generalize ps[j] = x at *
      generalize qs[j] = y at *
      have e1 : x.seq = y.seq := congrArg (fun c => c.1) hcc
      have e2 : x.last = y.last := congrArg (fun c => c.2.1) hcc
      have e3 : x.bs = y.bs := congrArg (fun c => c.2.2) hcc
      have HS : Hid (∀ q, Calls Try.prog 19 #[.slice x.A x.n x.cap, .slice y.A y.n y.cap] (wr.drewN q) fun e w' => e = .returned (.bool true) ∧ ∃ n, w' = (wr.drewN q).drewN n) := fun q => same_y x.bs x.A y.A x.n y.n x.cap y.cap _ (R1.out.sl.ext (bdrewN (Below.refl _ _) q)) (by rw [e3]; exact R2.out.sl.ext (bdrewN (Below.refl _ _) q)) R1.out.n (by rw [e3]; exact R2.out.n) (by have := R1.out.le; unfold maxLen; omega)
      have t1 : (x.seq != y.seq) = false := by rw [e1]; simp
      have t2 : (x.last != y.last) = false := by rw [e2]; simp
      have t3 : (x.last == y.last) = true := by rw [e2]; simp
      have b1 : (0 : Int) ≤ (j : Int) := Int.natCast_nonneg _
      have b2 : (j : Int) < (n : Int) := by omega
      clear hcc hx hy hb e1 e2 e3
      go_upto_region 6 with fail
      go_quiet ((go_at_call 19; with_reducible exact Calls.quiet_of (HS.out _)))
      go_wp2
      go_roundg (gk - 1)
      case measure => omega
      case rel => exact ⟨j + 1, k + nq, by omega, by omega, by go_num, by rw [Hid, ← hw.out]; simp⟩
    · have b2 : ¬ (j : Int) < (n : Int) := by omega
      have b5 : decide (j < n) = false := decide_eq_false hlt
      go_wp2
      go_ret
      exact ⟨rfl, k, hw.out.symm⟩
end Go.Proofs.Ytiljpbncfofnhaa.Send
