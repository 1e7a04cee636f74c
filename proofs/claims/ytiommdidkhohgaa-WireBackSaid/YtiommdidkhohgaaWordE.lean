/- slices.Backward over bytes; words.Get$1, Size. -/
import Derived.Test.YtiommdidkhohgaaWordC
import Derived.Outline
import Derived.BigQuiet
import Derived.Deep.QuietTactic
import Derived.Deep.RegionWith
import Derived.Deep.RegionHeld3
import Derived.Deep.DrawnRows
import Derived.Deep.LoopGhost
import Derived.Deep.DeepCutAuto
import Derived.Laws.EntriesVeiled
namespace Go.Proofs.Ytiommdidkhohgaa.Word
open Go.RowKit Go.ChangeShapes Go.WideShapes Go.ChangeAt
set_option linter.unusedVariables false
set_option linter.unusedSimpArgs false
attribute [local go_sem ↓] Go.wp_at_zero Go.wp_at_succ
attribute [local go_sem] Oper.semAt_some
open Go.Shelf

/-- bytes with their places, the last one first -/
def bk (l : List UInt8) : List (Int × UInt8) := (l.mapIdx fun i b => ((i : Int), b)).reverse
def encK (x : Int × UInt8) : Array Value := #[.int .i64 x.1, .int .u8 (x.2.toNat : Int)]
theorem bk_take {l : List UInt8} {j : Nat} {b : UInt8} (h : l[j]? = some b) : bk (l.take (j + 1)) = ((j : Int), b) :: bk (l.take j) := by
  have hj : j < l.length := (List.getElem?_eq_some_iff.1 h).1
  have e : l.take (j + 1) = l.take j ++ [b] := by rw [List.take_add_one, h]; rfl
  unfold bk
  rw [e, List.mapIdx_append]
  simp only [List.mapIdx_cons, List.mapIdx_nil, List.reverse_append, List.reverse_cons, List.reverse_nil, List.nil_append, List.cons_append, List.length_take]
  rw [Nat.min_eq_left (by omega)]
  simp
theorem bk_snd (l : List UInt8) : (bk l).map Prod.snd = l.reverse := by
  unfold bk
  rw [List.map_reverse]
  congr 1
  apply List.ext_getElem?
  intro i
  simp
  cases l[i]? <;> simp

theorem backward_any (A : Option Addr) (n cap : Nat) (w : World) : Calls Try.prog 90 #[.slice A n cap] w fun e w' => e = .returned (.func (.func 92) #[] #[.pointer (some ⟨w.heap.size, 0, none⟩)]) ∧ w.alloc (.cells #[.slice A n cap] 22) = w' := by
  go_enter Try.func90, Try.ntmps90
  go_wp2
  go_ret
  exact ⟨rfl, rfl⟩

theorem backward_iter (lv : Nat) (l : List UInt8) (A : Option Addr) (n cap bl : Nat) (w : World) (hl : BySl w w.heap.size A l) (hn : Hid (n = l.length)) (hm : n ≤ 1000000) (hbl : w.cell? ⟨bl, 0, none⟩ = some (.slice A n cap)) :
    IterT lv Try.prog 92 #[.pointer (some ⟨bl, 0, none⟩)] encK (bk l) (fun _ => False) (fun k => k = bl ∨ blockOf A = some k) w := by
  intro l' J Jx W hW hl1 hl2 hJ hJx hY h0
  have HY := Lib.hid hY
  have HJ := Lib.hid hJ
  have hbl' : W.cell? ⟨bl, 0, none⟩ = some (.slice A n cap) := (hW.cell (World.block_lt_of_cell? w _ hbl)).trans hbl
  have hlW : BySl W W.heap.size A l := hl.ext hW
  have HH := Lib.hid (And.intro hbl' (And.intro hlW h0))
  clear hY hJ hJx h0 hbl hl hlW
  have w0 : IntKind.i64.wrap ((n : Int) - 1) = (n : Int) - 1 := IntWalk.i64_in _ (by omega)
  refine callsIn_of_wp Try.func92 rfl trivial ?_ rfl
  simp only [Try.ntmps92, List.size_toArray, List.length_cons, List.length_nil, Nat.reduceAdd, Nat.reduceSub, Array.replicate_succ, Array.replicate_zero, List.push_toArray, List.append_toArray, List.nil_append, List.cons_append]
  gi_wp2
  gi_loopg [3] n (fun g vj wr => vj = .int .i64 ((g : Int) - 1) ∧ g ≤ n ∧ ∃ pre, Hid (bk l = pre ++ bk (l.take g)) ∧ J pre wr ∧ wr.cell? ⟨bl, 0, none⟩ = some (.slice A n cap) ∧ BySl wr wr.heap.size A l ∧ W.heap.size ≤ wr.heap.size)
  case atStart => exact ⟨rfl, by omega, [], by rw [Hid, hn.out, List.take_length]; rfl, HH.out.2.2, HH.out.1, HH.out.2.1, Nat.le_refl _⟩
  case round =>
    obtain ⟨rfl, hg, pre, hpre, hJp, hc, hs, hsz⟩ := hrel
    rcases gk with _ | j
    · gi_wp2
      go_end0
      exact ⟨⟨_, rfl⟩, .inl (by rw [hpre.out]; simpa [bk] using hJp)⟩
    · have hx : l[j]? = some l[j] := List.getElem?_eq_getElem (by rw [← hn.out]; omega)
      obtain ⟨bb, off, rfl, hbb, c0⟩ := BySl.at_ hs hx
      have Hx := Lib.hid hx
      generalize l[j] = b at *
      have b0 : (0 : Int) ≤ (j : Int) := Int.natCast_nonneg _
      have b1 : (j : Int) < (n : Int) := by omega
      have b2 : ((j + 1 : Nat) : Int) - 1 = (j : Int) := by omega
      have b3 : IntKind.i64.wrap ((j : Int) - 1) = (j : Int) - 1 := IntWalk.i64_in _ (by omega)
      have hX : Hid (bk l = pre ++ ((j : Int), b) :: bk (l.take j)) := by rw [Hid, hpre.out, bk_take hx]
      obtain ⟨fn5, tm5, as5, bd5, hy5, hR5⟩ := HY.out pre ((j : Int), b) wr hJp ⟨bk (l.take j), by rw [hX.out]; simp⟩ hsz
      simp only [encK] at hy5
      have HS := Lib.hid hs
      clear hx hs
      gi_wp2
      refine ⟨(fun h => by cases h), hR5.mono ?_⟩
      rintro e W' (⟨rfl, hJ', hk⟩ | ⟨rfl, hJx'⟩)
      · gi_wp2
        gi_roundg j
        case measure => omega
        case rel =>
          refine ⟨by go_num, by omega, pre ++ [((j : Int), b)], by rw [Hid, hX.out]; simp, hJ', (hk.cell (p := ⟨bl, 0, none⟩) (World.block_lt_of_cell? wr _ hc) (fun h => h (.inl rfl))).trans hc, HS.out.chg hk (fun g hg h => h (.inr hg)), Nat.le_trans hsz hk.size⟩
      · gi_wp2
        refine bodyPost_ret (results_none rfl _ _ _) rfl ?_
        exact ⟨⟨_, rfl⟩, .inr ⟨_, hJx'⟩⟩

theorem low_any (d : UInt8) (w : World) : Calls Try.prog 89 #[.int .u8 (d.toNat : Int)] w fun e w' => e = .returned (.bool (decide (d.toNat < 128))) ∧ w = w' := by
  have e : decide ((d.toNat : Int) < 128) = decide (d.toNat < 128) := by
    by_cases h : d.toNat < 128 <;> simp [h] <;> omega
  have He := Lib.hid e
  clear e
  go_enter Try.func89, Try.ntmps89
  go_wp2
  go_ret
  exact ⟨by rw [← He.out]; rfl, rfl⟩
end Go.Proofs.Ytiommdidkhohgaa.Word
