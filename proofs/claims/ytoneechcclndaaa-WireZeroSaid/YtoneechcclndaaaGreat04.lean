/- law 04: Great; arguments of values. -/
import Derived.Test.YtoneechcclndaaaAwakeB
import Derived.Test.YtoneechcclndaaaLift
import Derived.Test.YtoneechcclndaaaOpen
import Derived.Outline
import Derived.BigQuiet
import Derived.Deep.QuietTactic
import Derived.Deep.RegionWith
import Derived.Deep.RegionHeld3
import Derived.Deep.DrawnRows
import Derived.Deep.LoopGhost
import Derived.Deep.DeepCutAuto
import Derived.Laws.EntriesVeiled
namespace Go.Proofs.Ytoneechcclndaaa.Wire
open Go.RowKit Go.ChangeShapes Go.WideShapes Go.ChangeAt
set_option linter.unusedVariables false
set_option linter.unusedSimpArgs false
attribute [local go_sem ↓] Go.wp_at_zero Go.wp_at_succ
open Go.Shelf Go.Proofs.Ytoneechcclndaaa.Word

/-- it may be read, however long it is -/
structure Wr.In (w : World) (r : Wr) : Prop where
  b : BySl w w.heap.size r.bA r.v.b
  bn : r.bn = r.v.b.length
  l : Sl w w.heap.size 1 encN r.lA r.v.l
  ln : r.ln = r.v.l.length
  n : r.v.n < p64
  i1 : -9223372036854775808 ≤ r.v.i
  i2 : r.v.i ≤ 9223372036854775807
  p : ∀ x ∈ r.v.l, x < p64
  bm : r.bn ≤ 140737488355328
  lm : r.ln ≤ 140737488355328
theorem Wr.In.rd {w : World} {r : Wr} (h : r.In w) (hb : r.bn ≤ 1000000) (hl : r.ln ≤ 1000000) : r.Rd w := ⟨h.b, h.bn, h.l, h.ln, h.n, h.i1, h.i2, h.p, by rw [← h.bn]; exact hb, by rw [← h.ln]; exact hl⟩
def gsum : List Wr → Nat
  | [] => 0
  | r :: rs => 10 + r.bn + r.ln + gsum rs
/-- are values more than are gone through? -/
def greatB : List Wr → Nat → Bool
  | [], _ => false
  | r :: rs, q => if 4000 < q + 10 + r.bn + r.ln then true else greatB rs (q + 10 + r.bn + r.ln)
theorem great_no : ∀ (rs : List Wr) (q : Nat), greatB rs q = false → (∀ r ∈ rs, r.bn ≤ 4000 ∧ r.ln ≤ 4000) ∧ rs.length * 10 + q ≤ 4000 ∨ rs = []
  | [], q, _ => .inr rfl
  | r :: rs, q, h => by
    left
    unfold greatB at h
    split at h
    · cases h
    · rename_i hq
      rcases great_no rs _ h with ⟨h1, h2⟩ | rfl
      · refine ⟨fun x hx => ?_, by rw [List.length_cons]; omega⟩
        rcases List.mem_cons.1 hx with rfl | hx
        · omega
        · exact h1 x hx
      · refine ⟨fun x hx => ?_, by simp; omega⟩
        rw [List.mem_singleton] at hx; subst hx; omega

theorem opens_u8 {H : Type} {ench : TypeId × Value → H} {w : World} {base : Nat} {held : Bool} : OpensAs ench Try.prog w base held 5 encB (fun _ => True) := by
  intro fuel cs x h hw
  obtain ⟨n, rfl, k⟩ := opens_int Try.underlying5 _ _ _ h hw
  have hb : 0 ≤ n ∧ n ≤ 255 := by simpa [Lit.wf, IntKind.min, IntKind.max, IntKind.signed, IntKind.bits] using k
  refine ⟨UInt8.ofNat n.toNat, ?_, trivial⟩
  simp only [encB]
  congr 2
  rw [UInt8.toNat_ofNat']
  omega
theorem opens_u64 {H : Type} {ench : TypeId × Value → H} {w : World} {base : Nat} {held : Bool} : OpensAs ench Try.prog w base held 34 encN (fun x => x < p64) := by
  intro fuel cs x h hw
  obtain ⟨n, rfl, k⟩ := opens_int Try.underlying34 _ _ _ h hw
  have hb : 0 ≤ n ∧ n ≤ 18446744073709551615 := by simpa [Lit.wf, IntKind.min, IntKind.max, IntKind.signed, IntKind.bits] using k
  refine ⟨n.toNat, ?_, by unfold p64; omega⟩
  simp only [encN]
  congr 2
  omega
theorem opens_val {H : Type} {ench : TypeId × Value → H} {w : World} {base : Nat} {held : Bool} : OpensAs ench Try.prog w base held 38 Wr.cells (Wr.In w) := by
  intro fuel cs x h hw
  obtain ⟨hl, n, hf⟩ := struct_cells Try.underlying38 (by kernel_rfl) (by kernel_rfl) h hw
  obtain ⟨v0, y0, e0, t0, w0⟩ := hf 0 _ rfl
  obtain ⟨v1, y1, e1, t1, w1⟩ := hf 1 _ rfl
  obtain ⟨v2, y2, e2, t2, w2⟩ := hf 2 _ rfl
  obtain ⟨v3, y3, e3, t3, w3⟩ := hf 3 _ rfl
  obtain ⟨v4, y4, e4, t4, w4⟩ := hf 4 _ rfl
  obtain ⟨n0, r0, k0⟩ := opens_int Try.underlying34 _ _ _ t0 w0
  obtain ⟨n1, r1, k1⟩ := opens_int Try.underlying3 _ _ _ t1 w1
  obtain ⟨n2, r2, k2⟩ := opens_bool Try.underlying4 _ _ _ t2 w2
  obtain ⟨A3, l3, c3, r3, hsl3, _, hle3, hmx3, hre3, _⟩ := open_sl_cells (c := 1) Try.underlying25 (by kernel_rfl) (by decide) opens_u8 t3 w3
  obtain ⟨A4, l4, c4, r4, hsl4, hok4, hle4, hmx4, hre4, _⟩ := open_sl_cells (c := 1) Try.underlying36 (by kernel_rfl) (by decide) opens_u64 t4 w4
  rw [show Try.prog.bytesOf 5 = 1 from by kernel_rfl] at hre3
  rw [show Try.prog.bytesOf 34 = 8 from by kernel_rfl] at hre4
  have hR : reachBytes ≤ 140737488355328 := by decide
  have hb0 : 0 ≤ n0 ∧ n0 ≤ 18446744073709551615 := by simpa [Lit.wf, IntKind.min, IntKind.max, IntKind.signed, IntKind.bits] using k0
  have hb1 : -9223372036854775808 ≤ n1 ∧ n1 ≤ 9223372036854775807 := by simpa [Lit.wf, IntKind.min, IntKind.max, IntKind.signed, IntKind.bits] using k1
  simp only [List.cons.injEq, and_true] at r0 r1 r2 r3 r4
  refine ⟨⟨⟨n0.toNat, n1, n2, l3, l4⟩, A3, l3.length, c3, A4, l4.length, c4⟩, ?_, ⟨hsl3, rfl, hsl4, rfl, by unfold p64; simp only; omega, hb1.1, hb1.2, hok4, by simp only; omega, by simp only; omega⟩⟩
  have hn0 : ((n0.toNat : Nat) : Int) = n0 := Int.toNat_of_nonneg hb0.1
  have hl' : cs.length = 5 := hl
  match cs, hl' with
  | [c0, c1, c2, c3, c4], _ => simp_all [Wr.cells]

theorem great_any (rs : List Wr) (A : Option Addr) (n cap : Nat) (w : World) (hl : Sl w w.heap.size 5 Wr.cells A rs) (hr : ∀ r ∈ rs, r.In w) (hn : Hid (n = rs.length)) (hm : n ≤ maxLen) :
    Calls Try.prog 16 #[.slice A n cap] w fun e w' => e = .returned (.bool (greatB rs 0)) ∧ ∃ k, w' = w.drewN k := by
  have HL := Lib.hid (And.intro hl hr)
  have hm2 : n ≤ 9223372036854775807 := by unfold maxLen at hm; omega
  clear hl hr hm
  go_enter Try.func16, Try.ntmps16
  go_wp2
  go_loopg [3, 4] n (fun g vs vj wr => ∃ j q : Nat, vj = .int .i64 (j : Int) ∧ vs = .int .i64 (q : Int) ∧ n ≤ j + g ∧ j ≤ n ∧ q ≤ 4000 ∧ Hid (greatB rs 0 = greatB (rs.drop j) q) ∧ Hid (∃ k, wr = w.drewN k))
  case atStart => exact ⟨0, 0, rfl, rfl, by omega, by omega, by omega, rfl, 0, rfl⟩
  case round =>
    obtain ⟨j, q, rfl, rfl, hg, hj, hq, hf, nn, rfl⟩ := hrel
    by_cases hlt : j < n
    · have hj1 : j < rs.length := by rw [← hn.out]; exact hlt
      obtain ⟨bb, off, rfl, hbb, c0, c1, c2, c3, c4⟩ := Wr.at_ HL.out.1 (List.getElem?_eq_getElem hj1)
      have hin := HL.out.2 _ (List.getElem_mem hj1)
      have HD := Lib.hid (List.drop_eq_getElem_cons hj1)
      generalize rs[j] = r at *
      have hb := hin.bm
      have hb2 := hin.lm
      have e1 : IntKind.i64.wrap ((q : Int) + 10) = (q : Int) + 10 := IntWalk.i64_in _ (by omega)
      have e2 : IntKind.i64.wrap ((q : Int) + 10 + (r.bn : Int)) = (q : Int) + 10 + (r.bn : Int) := IntWalk.i64_in _ (by omega)
      obtain ⟨q2, hq2⟩ : ∃ t, t = q + 10 + r.bn + r.ln := ⟨_, rfl⟩
      have e3 : IntKind.i64.wrap ((q : Int) + 10 + (r.bn : Int) + (r.ln : Int)) = (q2 : Int) := by rw [IntWalk.i64_in _ (by omega)]; omega
      have HG : Hid (greatB rs 0 = if 4000 < q2 then true else greatB (rs.drop (j + 1)) q2) := by rw [Hid, hf.out, HD.out, greatB, hq2]
      clear hin hb hb2 hq2
      have b0 : (0 : Int) ≤ (j : Int) := Int.natCast_nonneg _
      have b2 : (j : Int) < (n : Int) := by omega
      have b3 : decide (j < n) = true := decide_eq_true hlt
      by_cases hgt : 4000 < q2
      · have d1 : decide ((4000 : Int) < (q2 : Int)) = true := decide_eq_true (by omega)
        have HT : Hid (greatB rs 0 = true) := by rw [Hid, HG.out, if_pos hgt]
        go_wp2
        go_quiet (fail)
        go_wp2
        go_ret
        exact ⟨ret_bool HT.out.symm, nn + nq, by first | rfl | exact World.drewN_drewN _ _ _⟩
      · have d1 : decide ((4000 : Int) < (q2 : Int)) = false := decide_eq_false (by omega)
        have HT : Hid (greatB rs 0 = greatB (rs.drop (j + 1)) q2) := by rw [Hid, HG.out, if_neg hgt]
        go_wp2
        go_quiet (fail)
        go_wp2
        go_roundg (gk - 1)
        case measure => omega
        case rel => exact ⟨j + 1, q2, by go_num, rfl, by omega, by omega, by omega, HT.out, nn + nq, by first | rfl | exact World.drewN_drewN _ _ _⟩
    · have HF : Hid (greatB rs 0 = false) := by rw [Hid, hf.out, List.drop_of_length_le (by rw [← hn.out]; omega)]; rfl
      have b2 : ¬ (j : Int) < (n : Int) := by omega
      have b3 : decide (j < n) = false := decide_eq_false hlt
      go_wp2
      go_ret
      exact ⟨ret_bool HF.out.symm, nn, rfl⟩
end Go.Proofs.Ytoneechcclndaaa.Wire
