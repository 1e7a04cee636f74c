/- message: the program's kinds, of, schema, May, Up. -/
import Derived.Test.YtoneechcclndaaaMsg
import Derived.Deep.WholeRow
import Derived.Laws.CopyOwn
import Derived.Outline
import Derived.BigQuiet
import Derived.Deep.QuietTactic
import Derived.Deep.RegionWith
import Derived.Deep.RegionHeld3
import Derived.Deep.DrawnRows
import Derived.Deep.LoopGhost
import Derived.Deep.DeepCutAuto
import Derived.Laws.EntriesVeiled
namespace Go.Proofs.Ytoneechcclndaaa.Msg
open Go.RowKit Go.ChangeShapes Go.WideShapes Go.ChangeAt
set_option linter.unusedVariables false
set_option linter.unusedSimpArgs false
attribute [local go_sem ↓] Go.wp_at_zero Go.wp_at_succ
open Go.Shelf Go.Proofs.Ytoneechcclndaaa.Word Go.Proofs.Ytoneechcclndaaa.Wire

/-- a message in memory -/
structure Mr where
  v : Ms
  A : Option Addr
  n : Nat
  c : Nat
def Mr.agg (r : Mr) : Value := .agg #[.int .u8 (r.v.kind : Int), .int .i64 r.v.client, .int .i64 r.v.epoch, .int .i64 r.v.width, .int .i64 r.v.seq, .bool r.v.last, .slice r.A r.n r.c]

theorem in_any (has : Bool) (n a b : Int) (w : World) : Calls Try.prog 67 #[.bool has, .int .i64 n, .int .i64 a, .int .i64 b] w fun e w' => e = .returned (.bool (inB has n a b)) ∧ w = w' := by
  unfold inB
  cases has with
  | true =>
    by_cases h1 : a ≤ n
    · have d1 : decide (a ≤ n) = true := decide_eq_true h1
      by_cases h2 : n ≤ b
      · have d2 : decide (n ≤ b) = true := decide_eq_true h2
        go_enter Try.func67, Try.ntmps67
        go_wp2
        go_ret
        exact ⟨by simp [d1, d2], rfl⟩
      · have d2 : decide (n ≤ b) = false := decide_eq_false h2
        go_enter Try.func67, Try.ntmps67
        go_wp2
        go_ret
        exact ⟨by simp [d1, d2], rfl⟩
    · have d1 : decide (a ≤ n) = false := decide_eq_false h1
      go_enter Try.func67, Try.ntmps67
      go_wp2
      go_ret
      exact ⟨by simp [d1], rfl⟩
  | false =>
    go_enter Try.func67, Try.ntmps67
    go_wp2
    go_ret
    exact ⟨by simp, rfl⟩

/-- a whole value into the block that was made last -/
theorem wpList_store_new {P : Program} (w : World) {ops : Array Oper} {rest : List Oper} {o : Oper} {a : Act} {Q : Exit → Act → World → Prop} (hgd : o.guard = none) (t : TypeId) (x y : Operand) (ho : o.op = .store t x y)
    (c c' : Array Value) (hx : a.eval x = .pointer (some ⟨w.heap.size, 0, none⟩)) (hy : a.eval y = .agg c') (hi : (P.info? t).map (·.size) = some c'.size) (hc : c.size = c'.size) (h1 : c'.all (·.oneCell') = true)
    (h : wpList P ops Q rest (a.put o.dst undef) (w.alloc (.cells c' t))) : wpList P ops Q (o :: rest) a (w.alloc (.cells c t)) :=
  wpList_plain hgd fun _ hK => by
    unfold Oper.wp execOp
    simp only [ho, hx, hy, Instr.storeAt, Instr.sureAddr, Sem.run_bind, Sem.run_pure, Result.andThen_ok, run_storeVar_new w t c c' hi hc h1]
    exact hK _ _ h
def Kk.agg (k : Kk) : Value := .agg #[.bool k.width, .bool k.seq, .bool k.data, .int .i64 k.least, .bool k.up]
def kindsV : Array Value := #[.bool false, .bool false, .bool false, .int .i64 0, .bool false, .bool true, .bool false, .bool false, .int .i64 0, .bool true, .bool false, .bool false, .bool false, .int .i64 0, .bool true, .bool false, .bool true, .bool false, .int .i64 0, .bool true, .bool false, .bool true, .bool true, .int .i64 1, .bool false, .bool false, .bool false, .bool false, .int .i64 0, .bool false]
theorem kone : kindsV.all (·.oneCell') = true := by simp [kindsV, Value.oneCell']

theorem zk : (#[.bool false, .bool false, .bool false, .int .i64 0, .bool false, .bool false, .bool false, .bool false, .int .i64 0, .bool false, .bool false, .bool false, .bool false, .int .i64 0, .bool false, .bool false, .bool false, .bool false, .int .i64 0, .bool false, .bool false, .bool false, .bool false, .int .i64 0, .bool false, .bool false, .bool false, .bool false, .int .i64 0, .bool false] : Array Value).size = (#[.bool false, .bool false, .bool false, .int .i64 0, .bool false, .bool true, .bool false, .bool false, .int .i64 0, .bool true, .bool false, .bool false, .bool false, .int .i64 0, .bool true, .bool false, .bool true, .bool false, .int .i64 0, .bool true, .bool false, .bool true, .bool true, .int .i64 1, .bool false, .bool false, .bool false, .bool false, .int .i64 0, .bool false] : Array Value).size := by simp
theorem zi : (Try.prog.info? 129).map (·.size) = some (#[.bool false, .bool false, .bool false, .int .i64 0, .bool false, .bool true, .bool false, .bool false, .int .i64 0, .bool true, .bool false, .bool false, .bool false, .int .i64 0, .bool true, .bool false, .bool true, .bool false, .int .i64 0, .bool true, .bool false, .bool true, .bool true, .int .i64 1, .bool false, .bool false, .bool false, .bool false, .int .i64 0, .bool false] : Array Value).size := by kernel_rfl
theorem zo : (#[.bool false, .bool false, .bool false, .int .i64 0, .bool false, .bool true, .bool false, .bool false, .int .i64 0, .bool true, .bool false, .bool false, .bool false, .int .i64 0, .bool true, .bool false, .bool true, .bool false, .int .i64 0, .bool true, .bool false, .bool true, .bool true, .int .i64 1, .bool false, .bool false, .bool false, .bool false, .int .i64 0, .bool false] : Array Value).all (·.oneCell') = true := by simp [Value.oneCell']
theorem zk' : (#[.bool false, .bool false, .bool false, .int .i64 0, .bool false, .bool false, .bool false, .bool false, .int .i64 0, .bool false, .bool false, .bool false, .bool false, .int .i64 0, .bool false, .bool false, .bool false, .bool false, .int .i64 0, .bool false, .bool false, .bool false, .bool false, .int .i64 0, .bool false, .bool false, .bool false, .bool false, .int .i64 0, .bool false] : Array Value).size = kindsV.size := zk
theorem zi' : (Try.prog.info? 129).map (·.size) = some kindsV.size := zi
theorem kres (w : World) : (loadVar 129 ⟨w.heap.size, 0, none⟩).run Try.prog (w.alloc (.cells kindsV 129)) = .ok (.agg kindsV) (w.alloc (.cells kindsV 129)) :=
  run_loadVar_new (P := Try.prog) w 129 kindsV 6 99 (by kernel_rfl) (by kernel_rfl)
theorem kres' (w : World) : (loadVar 129 ⟨w.heap.size, 0, none⟩).run Try.prog (w.alloc (.cells #[.bool false, .bool false, .bool false, .int .i64 0, .bool false, .bool true, .bool false, .bool false, .int .i64 0, .bool true, .bool false, .bool false, .bool false, .int .i64 0, .bool true, .bool false, .bool true, .bool false, .int .i64 0, .bool true, .bool false, .bool true, .bool true, .int .i64 1, .bool false, .bool false, .bool false, .bool false, .int .i64 0, .bool false] 129)) = .ok (.agg kindsV) (w.alloc (.cells #[.bool false, .bool false, .bool false, .int .i64 0, .bool false, .bool true, .bool false, .bool false, .int .i64 0, .bool true, .bool false, .bool false, .bool false, .int .i64 0, .bool true, .bool false, .bool true, .bool false, .int .i64 0, .bool true, .bool false, .bool true, .bool true, .int .i64 1, .bool false, .bool false, .bool false, .bool false, .int .i64 0, .bool false] 129)) := kres w
theorem results_cell {P : Program} {fn : Func} {tmps : Array Value} {a : Nat} {t : TypeId} {p : Addr} {w : World} {v : Value} (hf : fn.results = #[.cell a t]) (ht : tmps.getD a undef = .pointer (some p)) (hl : (loadVar t p).run P w = .ok v w) : (results fn tmps).run P w = .ok v w := by
  unfold results
  have ht' : tmps[a]?.getD undef = .pointer (some p) := by simpa using ht
  simp [hf, ht', hl, asAddr]
theorem results_cell_tmp {P : Program} {fn : Func} {tmps : Array Value} {a b : Nat} {t : TypeId} {p : Addr} {w : World} {v u : Value} (hf : fn.results = #[.cell a t, .tmp b]) (ht : tmps.getD a undef = .pointer (some p)) (hb : tmps.getD b undef = u) (hl : (loadVar t p).run P w = .ok v w) :
    (results fn tmps).run P w = .ok (.tuple #[v, u]) w := by
  unfold results
  have ht' : tmps[a]?.getD undef = .pointer (some p) := by simpa using ht
  have hb' : tmps[b]?.getD undef = u := by simpa using hb
  simp [hf, ht', hb', hl, asAddr]
set_option maxHeartbeats 1000000 in
theorem kinds_any (w : World) : Calls Try.prog 87 #[] w fun e w' => e = .returned (.agg kindsV) ∧ Below w.heap.size w w' := by
  go_enter Try.func87, Try.ntmps87
  go_wp2_with (with_reducible refine wpList_store_new _ rfl 129 (.tmp 0) (.tmp 6) rfl _ _ rfl rfl zi zk zo ?_)
  exact bodyPost_ret (v := .agg kindsV) (results_cell Try.results87 rfl (kres' w)) rfl ⟨rfl, (by repeat (first | exact Below.refl _ _ | assumption | refine Below.drew ?_ | refine bdrewN ?_ _ | refine Below.alloc ?_ (by simp; try omega) _ | refine Below.setCell ?_ (by simp; try omega) _))⟩
theorem kcell (w : World) (j : Nat) (v : Value) (h : kindsV[j]? = some v) : (w.alloc (.cells kindsV 129)).cell? ⟨w.heap.size, j, none⟩ = some v := by
  rw [cell_of_row _ _ j kindsV 129 (0, 0) (heap_alloc_last w _)]; exact h

theorem bool_5 (a b c e : Bool) (d : Int) : (#[.bool a, .bool b, .bool c, .int .i64 d, .bool e] : Array Value).all (·.oneCell') = true := by simp [Value.oneCell']
theorem zKk (k : Kk) : (Try.prog.info? 99).map (·.size) = some (#[.bool k.width, .bool k.seq, .bool k.data, .int .i64 k.least, .bool k.up] : Array Value).size := by kernel_rfl
theorem kres5 (w : World) (g : Nat) (k : Kk) (h : Blk w g 99 #[.bool k.width, .bool k.seq, .bool k.data, .int .i64 k.least, .bool k.up]) : (loadVar 99 ⟨g, 0, none⟩).run Try.prog w = .ok k.agg w :=
  run_loadVar_row (P := Try.prog) w g _ 99 _ (0, 0) _ h Try.underlying99 rfl (zKk k)
theorem ofPre (w w1 : World) (k : Kk) (C : Array Value) (hC : C.size = 5) (hb1 : Below (w.alloc (.cells C 99)).heap.size (w.alloc (.cells C 99)) w1) : Hid ((w1.alloc (.cells kindsV 129)).heap[w.heap.size]? = some (.cells C 99 (0, 0)) ∧ Below w.heap.size w (w1.alloc (.cells kindsV 129))) := by
  have h := ((Blk.new w 99 C).ext hb1)
  exact ⟨h.alloc _, ((below_1 w _).trans (hb1.mono (by simp))).alloc (by have := hb1.size; simp at this; omega) _⟩
set_option maxHeartbeats 1000000 in
theorem of_some (n : Nat) (k : Kk) (w : World) (hn : n ≤ 18446744073709551615) (hn1 : 1 ≤ n) (hn2 : n < 6) (h0 : kindsV[n * 5]? = some (.bool k.width)) (h1 : kindsV[n * 5 + 1]? = some (.bool k.seq)) (h2 : kindsV[n * 5 + 2]? = some (.bool k.data)) (h3 : kindsV[n * 5 + 3]? = some (.int .i64 k.least)) (h4 : kindsV[n * 5 + 4]? = some (.bool k.up)) :
    Calls Try.prog 64 #[.int .u64 (n : Int)] w fun e w' => e = .returned (.tuple #[k.agg, .bool true]) ∧ Below w.heap.size w w' := by
  have HH := Lib.hid (And.intro h0 (And.intro h1 (And.intro h2 (And.intro h3 h4))))
  have d1 : ¬ (n : Int) < 1 := by omega
  have d2 : ¬ (6 : Int) ≤ (n : Int) := by omega
  clear h0 h1 h2 h3 h4
  go_enter Try.func64, Try.ntmps64
  go_wp2_with (first | (go_at_call 87; refine (kinds_any _).mono ?_; rintro e w1 ⟨rfl, hb1⟩; have HO := ofPre w w1 k _ rfl hb1; clear hb1; have k0 := kcell w1 _ _ HH.out.1; have k1 := kcell w1 _ _ HH.out.2.1; have k2 := kcell w1 _ _ HH.out.2.2.1; have k3 := kcell w1 _ _ HH.out.2.2.2.1; have k4 := kcell w1 _ _ HH.out.2.2.2.2) | (with_reducible refine wpList_store_new _ rfl 129 (.tmp 4) (.tmp 5) rfl _ _ rfl rfl zi' zk' kone ?_) | (with_reducible refine wpList_store_row rfl 99 (.tmp 2) (.tmp 15) rfl _ _ rfl rfl 99 _ HO.out.1 (zKk k) rfl (bool_5 _ _ _ _ _) ?_))
  refine bodyPost_ret (v := .tuple #[k.agg, .bool true]) (results_cell_tmp Try.results64 rfl rfl (kres5 _ _ k (setRow_heap _ _ _ _ _ _ HO.out.1))) rfl ⟨rfl, below_setRow HO.out.2 (Nat.le_refl _) _⟩
set_option maxHeartbeats 1000000 in
theorem of_none (n : Nat) (w : World) (hn : n ≤ 18446744073709551615) (h : n = 0 ∨ 6 ≤ n) :
    Calls Try.prog 64 #[.int .u64 (n : Int)] w fun e w' => e = .returned (.tuple #[kk0.agg, .bool false]) ∧ Below w.heap.size w w' := by
  rcases h with rfl | h
  · go_enter Try.func64, Try.ntmps64
    go_wp2_with (first | (go_at_call 87; refine (kinds_any _).mono ?_; rintro e w1 ⟨rfl, hb1⟩; have HO := ofPre w w1 kk0 _ rfl hb1; clear hb1) | (with_reducible refine wpList_store_new _ rfl 129 (.tmp 4) (.tmp 5) rfl _ _ rfl rfl zi' zk' kone ?_) | (with_reducible refine wpList_store_row rfl 99 (.tmp 2) (.tmp 12) rfl _ _ rfl rfl 99 _ HO.out.1 (zKk kk0) rfl (bool_5 _ _ _ _ _) ?_))
    refine bodyPost_ret (v := .tuple #[kk0.agg, .bool false]) (results_cell_tmp Try.results64 rfl rfl (kres5 _ _ kk0 (setRow_heap _ _ _ _ _ _ HO.out.1))) rfl ⟨rfl, below_setRow HO.out.2 (Nat.le_refl _) _⟩
  · have d1 : ¬ (n : Int) < 1 := by omega
    have d2 : (6 : Int) ≤ (n : Int) := by omega
    go_enter Try.func64, Try.ntmps64
    go_wp2_with (first | (go_at_call 87; refine (kinds_any _).mono ?_; rintro e w1 ⟨rfl, hb1⟩; have HO := ofPre w w1 kk0 _ rfl hb1; clear hb1) | (with_reducible refine wpList_store_new _ rfl 129 (.tmp 4) (.tmp 5) rfl _ _ rfl rfl zi' zk' kone ?_) | (with_reducible refine wpList_store_row rfl 99 (.tmp 2) (.tmp 12) rfl _ _ rfl rfl 99 _ HO.out.1 (zKk kk0) rfl (bool_5 _ _ _ _ _) ?_))
    refine bodyPost_ret (v := .tuple #[kk0.agg, .bool false]) (results_cell_tmp Try.results64 rfl rfl (kres5 _ _ kk0 (setRow_heap _ _ _ _ _ _ HO.out.1))) rfl ⟨rfl, below_setRow HO.out.2 (Nat.le_refl _) _⟩
theorem of_any (n : Nat) (w : World) (hn : n ≤ 18446744073709551615) : Calls Try.prog 64 #[.int .u64 (n : Int)] w fun e w' => e = .returned (.tuple #[((kkOf n).getD kk0).agg, .bool (kkOf n).isSome]) ∧ Below w.heap.size w w' := by
  cases hk : kkOf n with
  | some k =>
    rcases kk_cases hk with ⟨rfl, rfl⟩ | ⟨rfl, rfl⟩ | ⟨rfl, rfl⟩ | ⟨rfl, rfl⟩ | ⟨rfl, rfl⟩ <;> exact of_some _ _ w hn (by omega) (by omega) rfl rfl rfl rfl rfl
  | none => exact of_none n w hn (kk_none hk)
end Go.Proofs.Ytoneechcclndaaa.Msg
