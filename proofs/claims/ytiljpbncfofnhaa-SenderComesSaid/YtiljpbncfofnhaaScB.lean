/- chunk: Split of the program: slices.Chunk, slices.Clip. -/
import Derived.Test.YtiljpbncfofnhaaRangeT
import Derived.Test.YtiljpbncfofnhaaScA
import Derived.OwnWalkIn
import Derived.TacticsInMore
import Derived.LoopNIn
import Derived.LoopIn
import Derived.Sort.LoopGhostIn
import Derived.Shelf.RegionOpen
import Derived.BigRegionIn
import Derived.Stop.RegionWithIn
import Derived.Outline
import Derived.BigQuiet
import Derived.Deep.QuietTactic
import Derived.Deep.RegionWith
import Derived.Deep.RegionHeld3
import Derived.Deep.DrawnRows
import Derived.Deep.LoopGhost
import Derived.Deep.DeepCutAuto
import Derived.Laws.EntriesVeiled
namespace Go.Proofs.Ytiljpbncfofnhaa.Split
open Go.RowKit Go.ChangeShapes Go.WideShapes Go.ChangeAt
set_option linter.unusedVariables false
set_option linter.unusedSimpArgs false
attribute [local go_sem ↓] Go.wp_at_zero Go.wp_at_succ
attribute [local go_sem] Oper.semAt_some
open Go.Shelf Send Go.Proofs.Ytiljpbncfofnhaa.Comes

/-- a slice expression's value, of three indexes -/
theorem run_slice_lohim {P : Program} {t e : TypeId} {c : Nat} (ht : P.underlying t = some (.slice e)) (hi : ∃ i, P.info? e = some i) (hc : P.cellsOf e = c) (A : Option Addr) (n cap : Nat) (l k m : Int) (h0 : 0 ≤ l) (h1 : l ≤ k) (h2 : k ≤ m) (h3 : m ≤ (cap : Int)) (W : World) :
    (Instr.slice t (.slice A n cap) (some (.int .i64 l)) (some (.int .i64 k)) (some (.int .i64 m))).run P W = .ok (.slice (cutA A m.toNat l.toNat c) (k.toNat - l.toNat) (m.toNat - l.toNat)) W := by
  obtain ⟨i, hi⟩ := hi
  subst hc
  unfold Instr.slice Instr.sliceBounds Instr.sliceBound
  have hm : (m.toNat : Int) = m := Int.toNat_of_nonneg (by omega)
  have hk : (k.toNat : Int) = k := Int.toNat_of_nonneg (by omega)
  simp only [Sem.run_bind, run_underlying ht, Result.andThen_ok, Sem.run_pure, asIntOf, if_pos (And.intro (show 0 ≤ m by omega) h3), hm, if_pos (And.intro (show 0 ≤ k by omega) h2), hk, if_pos (And.intro h0 h1), run_sizeOf _ hi]
  rfl

theorem byInfo : ∃ i, Try.prog.info? 5 = some i := Option.isSome_iff_exists.1 (by kernel_rfl)

/-- the piece i of those bytes, as slices.Chunk hands it -/
def chAt (A : Option Addr) (l : List UInt8) (i : Nat) : Ch := ⟨cutA A (48 * i + min 48 (l.length - 48 * i)) (48 * i) 1, min 48 (l.length - 48 * i), min 48 (l.length - 48 * i), (l.drop (48 * i)).take 48⟩
def chs (A : Option Addr) (l : List UInt8) : List Ch := (List.range ((l.length + 47) / 48)).map (chAt A l)
def encC (c : Ch) : Array Value := #[.slice c.A c.n c.cap]
theorem chs_len (A : Option Addr) (l : List UInt8) : (chs A l).length = (l.length + 47) / 48 := by simp [chs]
theorem chs_take {A : Option Addr} {l : List UInt8} {i : Nat} (h : 48 * i < l.length) : (chs A l).take (i + 1) = (chs A l).take i ++ [chAt A l i] := by
  rw [List.take_add_one]
  unfold chs
  rw [List.getElem?_map, List.getElem?_range (by omega)]
  rfl
theorem chs_bs (A : Option Addr) (l : List UInt8) : (chs A l).map Ch.bs = cks l := by
  unfold chs cks
  rw [List.map_map]; rfl

theorem chunk_any (A : Option Addr) (n cap : Nat) (w : World) : Calls Try.prog 70 #[.slice A n cap, .int .i64 48] w fun e w' => e = .returned (.func (.func 92) #[] #[.pointer (some ⟨w.heap.size, 0, none⟩), .pointer (some ⟨w.heap.size + 1, 0, none⟩)]) ∧ (w.alloc (.cells #[.slice A n cap] 36)).alloc (.cells #[.int .i64 48] 3) = w' := by
  go_enter Try.func70, Try.ntmps70
  go_wp2
  go_ret
  exact ⟨rfl, rfl⟩

theorem clip_any (A : Option Addr) (n cap : Nat) (w : World) (h : n ≤ cap) : Calls Try.prog 72 #[.slice A n cap] w fun e w' => e = .returned (.slice A n n) ∧ w = w' := by
  have hs : ∀ W, (Instr.slice 36 (.slice A n cap) none (some (.int .i64 (n : Int))) (some (.int .i64 (n : Int)))).run Try.prog W = .ok (.slice A n n) W := fun W => by
    have := run_slice_him (c := 1) Try.underlying36 byInfo (by kernel_rfl) A n cap (n : Int) (n : Int) (by omega) (by omega) (by omega) W
    simpa using this
  go_enter Try.func72, Try.ntmps72
  go_wp2
  go_ret
  exact ⟨rfl, rfl⟩

set_option maxHeartbeats 1000000 in
theorem chunk_iter (lv : Nat) (l : List UInt8) (A : Option Addr) (n cap b1 b2 : Nat) (w : World) (hn : Hid (n = l.length)) (hm : n ≤ 1000000) (hc : n ≤ cap) (h1 : w.cell? ⟨b1, 0, none⟩ = some (.slice A n cap)) (h2 : w.cell? ⟨b2, 0, none⟩ = some (.int .i64 48)) :
    IterT lv Try.prog 92 #[.pointer (some ⟨b1, 0, none⟩), .pointer (some ⟨b2, 0, none⟩)] encC (chs A l) (fun _ => False) (fun k => k = b1 ∨ k = b2) w := by
  intro l' J Jx W hW hl1 hl2 hJ hJx hY h0
  have HY := Lib.hid hY
  have HJ := Lib.hid hJ
  have h1' : W.cell? ⟨b1, 0, none⟩ = some (.slice A n cap) := (hW.cell (World.block_lt_of_cell? w _ h1)).trans h1
  have h2' : W.cell? ⟨b2, 0, none⟩ = some (.int .i64 48) := (hW.cell (World.block_lt_of_cell? w _ h2)).trans h2
  have HH := Lib.hid (And.intro h1' (And.intro h2' h0))
  clear hY hJ hJx h0 h1 h2 h1' h2'
  refine callsIn_of_wp Try.func92 rfl trivial ?_ rfl
  simp only [Try.ntmps92, List.size_toArray, List.length_cons, List.length_nil, Nat.reduceAdd, Nat.reduceSub, Array.replicate_succ, Array.replicate_zero, List.push_toArray, List.append_toArray, List.nil_append, List.cons_append]
  gi_wp2
  gi_loopg [4] ((n + 47) / 48) (fun g vj wr => ∃ i : Nat, g + i = (n + 47) / 48 ∧ vj = .int .i64 ((48 * i : Nat) : Int) ∧ J ((chs A l).take i) wr ∧ wr.cell? ⟨b1, 0, none⟩ = some (.slice A n cap) ∧ wr.cell? ⟨b2, 0, none⟩ = some (.int .i64 48) ∧ W.heap.size ≤ wr.heap.size)
  case atStart => exact ⟨0, by omega, rfl, HH.out.2.2, HH.out.1, HH.out.2.1, Nat.le_refl _⟩
  case round =>
    obtain ⟨i, hg, rfl, hJp, c1, c2, hsz⟩ := hrel
    by_cases hlt : 48 * i < n
    · obtain ⟨j, hj⟩ : ∃ j, j = 48 * i := ⟨_, rfl⟩
      rw [← hj]
      have hlt' : j < n := by omega
      have s1 : ∀ X, (Instr.slice 36 (.slice A n cap) (some (.int .i64 (j : Int))) none none).run Try.prog X = .ok (.slice (cutA A cap j 1) (n - j) (cap - j)) X := fun X => by
        have := run_slice_lo (c := 1) Try.underlying36 byInfo (by kernel_rfl) A n cap (j : Int) (by omega) (by omega) X
        simpa using this
      have e3 : IntKind.i64.wrap ((j : Int) + 48) = (j : Int) + 48 := IntWalk.i64_in _ (by omega)
      have hJd : J ((chs A l).take i) wr.drew := HJ.out _ _ _ hJp (Chg.refl _ _).drew
      have Hj := Lib.hid hj
      by_cases h48 : 48 ≤ n - j
      · have e1 : IntKind.i64.wrap ((j : Int) + 48) = (j : Int) + 48 := IntWalk.i64_in _ (by omega)
        have s2 : ∀ X, (Instr.slice 36 (.slice A n cap) (some (.int .i64 (j : Int))) (some (.int .i64 ((j : Int) + 48))) (some (.int .i64 ((j : Int) + 48)))).run Try.prog X = .ok (.slice (cutA A (j + 48) j 1) 48 48) X := fun X => by
          have := run_slice_lohim (c := 1) Try.underlying36 byInfo (by kernel_rfl) A n cap (j : Int) ((j : Int) + 48) ((j : Int) + 48) (by omega) (by omega) (by omega) (by omega) X
          have e5 : ((j : Int) + 48).toNat = j + 48 := by omega
          rw [e5, Int.toNat_natCast, show j + 48 - j = 48 from by omega] at this
          exact this
        have hcx : Hid (chAt A l i = ⟨cutA A (j + 48) j 1, 48, 48, (l.drop (48 * i)).take 48⟩) := by
          have hm : min 48 (l.length - 48 * i) = 48 := by rw [← hn.out]; omega
          rw [Hid, chAt, hm, ← hj]
        have h48i : (48 : Int) ≤ 48 := by omega
        have h48j : ¬ ((n - j : Nat) : Int) < 48 := by omega
        have h48k : 48 = 48 ∨ ((n - j : Nat) : Int) < 48 := by omega
        obtain ⟨fn5, tm5, as5, bd5, hy5, hR5⟩ := HY.out ((chs A l).take i) (chAt A l i) wr.drew hJd (by rw [← chs_take (by rw [← hn.out]; exact hlt)]; exact List.take_prefix _ _) hsz
        rw [hcx.out] at hy5
        simp only [encC] at hy5
        have HR := Lib.hid hR5
        clear hJp hj hR5 hJd
        gi_wp2_with fail
        gi_region
        gi_wp2
        refine ⟨(fun h => by cases h), (HR.out).mono ?_⟩
        rintro e W' (⟨rfl, hJ', hk⟩ | ⟨rfl, hJx'⟩)
        · have k1 : W'.cell? ⟨b1, 0, none⟩ = some (.slice A n cap) := (hk.cell (p := ⟨b1, 0, none⟩) (World.block_lt_of_cell? wr _ c1) (fun h => h (.inl rfl))).trans c1
          have k2 : W'.cell? ⟨b2, 0, none⟩ = some (.int .i64 48) := (hk.cell (p := ⟨b2, 0, none⟩) (World.block_lt_of_cell? wr _ c2) (fun h => h (.inr rfl))).trans c2
          have hsz' : W.heap.size ≤ W'.heap.size := Nat.le_trans hsz hk.size
          clear hk
          gi_wp2
          gi_roundg (gk - 1)
          case measure => omega
          case rel =>
            exact ⟨i + 1, by omega, by rw [Hj.out]; go_num, by rw [chs_take (by rw [← hn.out]; exact hlt)]; exact hJ', k1, k2, hsz'⟩
        · gi_wp2
          refine bodyPost_ret (results_none rfl _ _ _) rfl ?_
          exact ⟨⟨_, rfl⟩, .inr ⟨_, hJx'⟩⟩
      · have e1 : IntKind.i64.wrap ((j : Int) + ((n - j : Nat) : Int)) = (j : Int) + ((n - j : Nat) : Int) := IntWalk.i64_in _ (by omega)
        have s2 : ∀ X, (Instr.slice 36 (.slice A n cap) (some (.int .i64 (j : Int))) (some (.int .i64 ((j : Int) + ((n - j : Nat) : Int)))) (some (.int .i64 ((j : Int) + ((n - j : Nat) : Int))))).run Try.prog X = .ok (.slice (cutA A (j + (n - j)) j 1) (n - j) (n - j)) X := fun X => by
          have := run_slice_lohim (c := 1) Try.underlying36 byInfo (by kernel_rfl) A n cap (j : Int) ((j : Int) + ((n - j : Nat) : Int)) ((j : Int) + ((n - j : Nat) : Int)) (by omega) (by omega) (by omega) (by omega) X
          have e5 : ((j : Int) + ((n - j : Nat) : Int)).toNat = j + (n - j) := by omega
          rw [e5, Int.toNat_natCast, show j + (n - j) - j = (n - j) from by omega] at this
          exact this
        have hcx : Hid (chAt A l i = ⟨cutA A (j + (n - j)) j 1, (n - j), (n - j), (l.drop (48 * i)).take 48⟩) := by
          have hm : min 48 (l.length - 48 * i) = (n - j) := by rw [← hn.out]; omega
          rw [Hid, chAt, hm, ← hj]
        have h48i : (((n - j : Nat) : Int) : Int) ≤ 48 := by omega
        have h48j : ¬ ((n - j : Nat) : Int) < ((n - j : Nat) : Int) := by omega
        have h48k : ((n - j : Nat) : Int) = 48 ∨ ((n - j : Nat) : Int) < 48 := by omega
        obtain ⟨fn5, tm5, as5, bd5, hy5, hR5⟩ := HY.out ((chs A l).take i) (chAt A l i) wr.drew hJd (by rw [← chs_take (by rw [← hn.out]; exact hlt)]; exact List.take_prefix _ _) hsz
        rw [hcx.out] at hy5
        simp only [encC] at hy5
        have HR := Lib.hid hR5
        clear hJp hj hR5 hJd
        gi_wp2_with fail
        gi_region
        gi_wp2
        refine ⟨(fun h => by cases h), (HR.out).mono ?_⟩
        rintro e W' (⟨rfl, hJ', hk⟩ | ⟨rfl, hJx'⟩)
        · have k1 : W'.cell? ⟨b1, 0, none⟩ = some (.slice A n cap) := (hk.cell (p := ⟨b1, 0, none⟩) (World.block_lt_of_cell? wr _ c1) (fun h => h (.inl rfl))).trans c1
          have k2 : W'.cell? ⟨b2, 0, none⟩ = some (.int .i64 48) := (hk.cell (p := ⟨b2, 0, none⟩) (World.block_lt_of_cell? wr _ c2) (fun h => h (.inr rfl))).trans c2
          have hsz' : W.heap.size ≤ W'.heap.size := Nat.le_trans hsz hk.size
          clear hk
          gi_wp2
          gi_roundg (gk - 1)
          case measure => omega
          case rel =>
            exact ⟨i + 1, by omega, by rw [Hj.out]; go_num, by rw [chs_take (by rw [← hn.out]; exact hlt)]; exact hJ', k1, k2, hsz'⟩
        · gi_wp2
          refine bodyPost_ret (results_none rfl _ _ _) rfl ?_
          exact ⟨⟨_, rfl⟩, .inr ⟨_, hJx'⟩⟩
    · have hx : (chs A l).take i = chs A l := List.take_of_length_le (by rw [chs_len, ← hn.out]; omega)
      have b1 : ¬ ((48 * i : Nat) : Int) < (n : Int) := by omega
      rw [hx] at hJp
      gi_wp2
      go_end0
      exact ⟨⟨_, rfl⟩, .inl hJp⟩
end Go.Proofs.Ytiljpbncfofnhaa.Split
