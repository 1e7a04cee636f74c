/- WireLong: bytes, a row just as long as may be are put, and taken; such as are longer aren't: whatever the input, the law returns true. -/
import Derived.Test.YtoneechcclndaaaFrD
import Derived.Test.YtoneechcclndaaaRPutD
import Derived.ChangeMaps5
import Derived.Outline
import Derived.BigQuiet
import Derived.Deep.QuietTactic
import Derived.Deep.RegionWith
import Derived.Deep.RegionHeld3
import Derived.Deep.DrawnRows
import Derived.Deep.LoopGhost
import Derived.Deep.DeepCutAuto
import Derived.Laws.EntriesVeiled
namespace Go.Proofs.Ytoneechcclndaaa.lawLong
open Go.RowKit Go.ChangeShapes Go.WideShapes Go.ChangeAt
set_option linter.unusedVariables false
set_option linter.unusedSimpArgs false
attribute [local go_sem ↓] Go.wp_at_zero Go.wp_at_succ
open Wire Word Bytes Go.Shelf lawTorn

theorem zero_flat (k : Nat) : (Builtin.zeroCells (Value.int .u8 0).cells k).toList = (List.replicate k (0 : UInt8)).flatMap encB := by
  apply List.ext_getElem?
  intro j
  by_cases hj : j < k
  · have h1 := flat_at encB_len (List.replicate k (0 : UInt8)) j 0 0 (by rw [List.getElem?_replicate, if_pos hj]) (by decide)
    simp only [Nat.mul_one, Nat.add_zero] at h1
    rw [h1]
    simp [Builtin.zeroCells, Value.cells, hj, encB, Nat.mod_one]
  · rw [List.getElem?_eq_none (by simp [Builtin.zeroCells, Value.cells]; omega), List.getElem?_eq_none (by rw [flat_length encB_len]; simp; omega)]
theorem run_append_za (w : World) (ty : TypeId) {v : Value} {l : List UInt8} (hown : OwnA w 5 1 encB v l) (k : Nat) (h0 : 0 < k) (hl : l.length + k ≤ 1000000) :
    ∃ v' w', (Builtin.append_ #[25, 3] ty #[v, .int .i64 (k : Int)]).run Try.prog w = .ok v' w' ∧ OwnA w' 5 1 encB v' (l ++ List.replicate k 0) ∧ Chg (fun i => v.ownBlock = some i) w w' ∧ (v'.ownBlock = v.ownBlock ∨ v'.ownBlock = some w.heap.size) := by
  obtain ⟨i0, hi, hz, hz1, hz2⟩ := info_parts Word.byInfo
  have hlo : (l.flatMap encB).length = l.length := by rw [flat_length encB_len]; omega
  have hzk := zero_flat k
  have grown : ∀ (old : Nat), old < l.length + k →
      OwnA (w.drew.alloc (.cells ((l.flatMap encB).toArray ++ Builtin.zeroCells (Value.int .u8 0).cells k ++ Builtin.zeroCells (Value.int .u8 0).cells (grownCap w (l.length + k) old 5 - (l.length + k))) 5)) 5 1 encB
        (.slice (some ⟨w.heap.size, 0, none⟩) (l.length + k) (grownCap w (l.length + k) old 5)) (l ++ List.replicate k 0) := by
    intro old ho
    have hge := grownCap_ge w (l.length + k) old 5
    have hcm : grownCap w (l.length + k) old 5 ≤ maxLen := grownCap_le_maxLen w (l.length + k) old 5 (by unfold maxLen; omega)
    have hlen : (l ++ List.replicate k (0 : UInt8)).length = l.length + k := by simp
    refine .inr ⟨w.heap.size, 0, _, _, by rw [hlen], heap_alloc_new w.drew _, by rw [hlen]; exact hge, hcm, ?_, ?_⟩
    · simp only [Array.size_append, List.size_toArray, hlo, zero_size]
      omega
    · simp only [Array.toList_append, List.append_assoc, List.drop_zero, hzk]
      rw [← List.append_assoc, ← List.flatMap_append, hlen]
      have h5 : ((l ++ List.replicate k (0 : UInt8)).flatMap encB).length = (l.length + k) * 1 := by rw [flat_length encB_len, hlen]
      rw [← h5]
      exact List.take_left
  rcases hown with ⟨rfl, rfl⟩ | ⟨g, off, cap, cur, rfl, hg, hnc, hcm, hcs, htake⟩
  · have h := Lib.run_append_grow_zeros (P := Try.prog) w 25 3 ty 5 i0 (.int .u8 0) .i64 .i64 Try.underlying25 Try.underlying3 hi hz none 0 0 [] (run_firstCells_none w.drew i0.size 0 0 0) k h0 (by omega) (by omega) (by simp at hl; omega) (by rw [hz2]; simp at hl; omega) (by rw [hz2]; exact growslice_fits (by omega) (by simp at hl; omega))
    have hgr := grown 0 (by simp; omega)
    simp only [List.length_nil, Nat.zero_add, List.flatMap_nil, List.nil_append] at hgr h ⊢
    exact ⟨_, _, h, hgr, ⟨rfl, rfl, rfl, by simp, fun k hk _ => Below.heap_alloc w.drew _ k hk⟩, .inr rfl⟩
  · have holds : ∀ j u, (l.flatMap encB)[j]? = some u → w.cell? ((⟨g, off, none⟩ : Addr).add j) = some u := by
      intro j u hu
      have hadd : (⟨g, off, none⟩ : Addr).add j = ⟨g, off + j, none⟩ := by unfold Addr.add; split <;> simp_all
      rw [hadd, cell_of_row w g _ cur 5 (0, 0) hg, ← Array.getElem?_toList]
      rw [← htake, List.getElem?_take] at hu
      split at hu
      · rwa [List.getElem?_drop] at hu
      · cases hu
    by_cases hroom : l.length + k ≤ cap
    · have hzl : (List.replicate k (0 : UInt8)).flatMap encB = (Builtin.zeroCells (Value.int .u8 0).cells k).toList := hzk.symm
      have hkl : ((List.replicate k (0 : UInt8)).flatMap encB).length = k := by rw [flat_length encB_len]; simp
      have hst := run_storeCells_at Try.prog g (off + l.length * 1) 5 ((List.replicate k (0 : UInt8)).flatMap encB) 0 cur w hg (by rw [hkl]; omega) (fun u hu => by obtain ⟨x, _, hx⟩ := List.mem_flatMap.1 hu; exact encB_one x u hx)
      simp only [Nat.add_zero] at hst
      refine ⟨.slice (some ⟨g, off, none⟩) (l.length + k) cap, w.setRow g (cur.toList.take (off + l.length * 1) ++ (List.replicate k (0 : UInt8)).flatMap encB ++ cur.toList.drop (off + l.length * 1 + ((List.replicate k (0 : UInt8)).flatMap encB).length)).toArray, ?_, ?_, ?_, .inl rfl⟩
      · have hk : k ≠ 0 := by omega
        have hw : IntKind.i64.wrap (k : Int) = k := by rw [IntKind.wrap_i64]; omega
        have hneg : ¬ ((k : Int) < 0) := by omega
        have h48i : ¬ (281474976710656 < (k : Int)) := by omega
        rw [hzl] at hst ⊢
        simp [Builtin.append_, run_underlying Try.underlying25, run_underlying Try.underlying3, sizeOf, typeInfo, zeroValue, hi, hz, hz1, hz2, asInt, asIntOf, hw, hneg, hk, h48i, hroom, Addr.add_lit]
        simp [Addr.add_lit] at hst
        first | exact hst | simp [hst]
      · refine .inr ⟨g, off, cap, _, by simp, setRow_heap w g cur _ 5 _ hg, by simpa using hroom, hcm, ?_, ?_⟩
        · simp only [List.size_toArray, List.length_append, List.length_take, List.length_drop, Array.length_toList, hkl]
          omega
        · have hsz2 : cur.toList.length = cur.size := Array.length_toList
          have htl : (cur.toList.take (off + l.length * 1)).length = off + l.length * 1 := by rw [List.length_take]; omega
          have hlen : ((l ++ List.replicate k (0 : UInt8)).flatMap encB).length = (l ++ List.replicate k (0 : UInt8)).length * 1 := flat_length encB_len _
          rw [List.append_assoc, List.drop_append_of_le_length (by rw [htl]; omega), List.drop_take, show off + l.length * 1 - off = l.length * 1 from by omega, htake, ← List.append_assoc, ← List.flatMap_append, ← hlen]
          exact List.take_left
      · exact ⟨rfl, rfl, rfl, by simp [World.setRow], fun k _ hk => setRow_other w g k _ (fun e => hk (by simp [Value.ownBlock, e]))⟩
    · have hold := run_firstCells_some (P := Try.prog) w.drew i0.size l.length ⟨g, off, none⟩ l.length cap (l.flatMap encB) (by rw [hlo, hz1]; omega) holds
      have h := Lib.run_append_grow_zeros (P := Try.prog) w 25 3 ty 5 i0 (.int .u8 0) .i64 .i64 Try.underlying25 Try.underlying3 hi hz (some ⟨g, off, none⟩) l.length cap (l.flatMap encB) hold k h0 (by omega) (by omega) (by omega) (by rw [hz2]; omega) (by rw [hz2]; exact growslice_fits (by omega) (by omega))
      exact ⟨_, _, h, grown cap (by omega), ⟨rfl, rfl, rfl, by simp, fun k hk _ => Below.heap_alloc w.drew _ k hk⟩, .inr rfl⟩
section
variable {P : Program}
theorem wp_append_za {o : Oper} {a : Act} {w : World} {K : Act → World → Prop} {Q : Exit → Act → World → Prop} (s x : Operand)
    (ho : o.op = .call { callee := .builtin .append, args := #[s, x], argTypes := #[25, 3] })
    (v : Value) (l : List UInt8) (hs : a.eval s = v) (hown : OwnA w 5 1 encB v l) (k : Nat) (hx : a.eval x = .int .i64 (k : Int)) (h0 : 0 < k) (hl : l.length + k ≤ 1000000)
    (h : ∀ v' w', OwnA w' 5 1 encB v' (l ++ List.replicate k 0) → Chg (fun k => v.ownBlock = some k) w w' → (v'.ownBlock = v.ownBlock ∨ v'.ownBlock = some w.heap.size) → K (a.put o.dst v') w') : o.wp Try.prog a w K Q := by
  obtain ⟨v', w', hrun, h2, h3, h4⟩ := run_append_za w o.type hown k h0 hl
  unfold Oper.wp execOp
  simp only [ho, resolve, invoke, builtin, Sem.run_bind, Sem.run_pure, Result.andThen_ok, List.map_toArray, List.map_cons, List.map_nil, hs, hx, hrun]
  exact h v' w' h2 h3 h4
end
theorem zV (a b c d e : Value) : (Try.prog.info? 38).map (·.size) = some (#[a, b, c, d, e] : Array Value).size := by kernel_rfl
def zero5 : Array Value := #[.int .u64 0, .int .i64 0, .bool false, .slice none 0 0, .slice none 0 0]
theorem one5 (n i : Int) (f : Bool) (a b : Option Addr) (x y z t : Nat) : (#[.int .u64 n, .int .i64 i, .bool f, .slice a x y, .slice b z t] : Array Value).all (·.oneCell') = true := by simp [Value.oneCell']
theorem set5 (C : Array Value) (h5 : C.size = 5) (a b c d e : Value) : ((((C.setIfInBounds 0 a).setIfInBounds 1 b).setIfInBounds 2 c).setIfInBounds 3 d).setIfInBounds 4 e = #[a, b, c, d, e] := by
  obtain ⟨l⟩ := C
  match l, h5 with
  | [a0, a1, a2, a3, a4], _ => rfl
theorem wpList_store_wr {ops : Array Oper} {rest : List Oper} {op : Oper} {a : Act} {w : World} {Q : Exit → Act → World → Prop} (hgd : op.guard = none) (x y : Operand) (ho : op.op = .store 38 x y)
    {g : Nat} {C : Array Value} (h5 : C.size = 5) (n i : Int) (f : Bool) (A B : Option Addr) (p q r t : Nat) (hx : a.eval x = .pointer (some ⟨g, 0, none⟩)) (hy : a.eval y = .agg #[.int .u64 n, .int .i64 i, .bool f, .slice A p q, .slice B r t]) (hb : Blk w g 38 C)
    (h : ∀ w', Blk w' g 38 #[.int .u64 n, .int .i64 i, .bool f, .slice A p q, .slice B r t] → Chg (fun i => i = g) w w' → wpList Try.prog ops Q rest (a.put op.dst undef) w') : wpList Try.prog ops Q (op :: rest) a w := by
  have hk := ((((hb.set_ 0 (.int .u64 n)).set_ 1 (.int .i64 i)).set_ 2 (.bool f)).set_ 3 (.slice A p q)).set_ 4 (.slice B r t)
  rw [set5 C h5] at hk
  have hc := (((((Chg.refl (fun i => i = g) w).setCell (p := ⟨g, 0, none⟩) (fun _ => rfl) (.int .u64 n)).setCell (p := ⟨g, 1, none⟩) (fun _ => rfl) (.int .i64 i)).setCell (p := ⟨g, 2, none⟩) (fun _ => rfl) (.bool f)).setCell (p := ⟨g, 3, none⟩) (fun _ => rfl) (.slice A p q)).setCell (p := ⟨g, 4, none⟩) (fun _ => rfl) (.slice B r t)
  have ht : ∀ j, j < 5 → (w.cell? ⟨g, 0 + j, none⟩).isSome = true := fun j hj => by
    rw [hb.cell, Nat.zero_add, Array.getElem?_eq_getElem (by rw [h5]; exact hj)]
    rfl
  exact wpList_store_mid hgd 38 x y ho g 0 _ hx hy (fun j hj => ⟨ht j hj, hb.free _⟩) (zV _ _ _ _ _) (one5 _ _ _ _ _ _ _ _ _) (h _ hk hc)

/-! the plain facts -/
theorem short_p {s : List UInt8} {k : Kd} {v : WV} (hs : schemaP s = some [k]) (hf : fitsK k v = true) (hw : v.Wf) (hl : longV v = false) : ∃ p, putP s [v] = (p, 0) ∧ wholeP s p = ([v], 0) ∧ p.length ≤ 300000 := by
  have hf1 : fitsS [k] [v] = true := by simp [fitsS, hf]
  have hl1 : [v].any longV = false := by simp [hl]
  have hw1 : ∀ x ∈ [v], x.Wf := by intro x hx; rw [List.mem_singleton.1 hx]; exact hw
  refine ⟨putS [k] [v], ?_, ?_, ?_⟩
  · unfold putP; rw [hs]; simp only; rw [if_pos hf1, if_neg (by rw [hl1]; simp)]
  · have h := takeS_put [k] [v] [] hf1 hw1 hl1
    rw [List.append_nil] at h
    unfold wholeP takeP
    rw [hs]
    simp only
    rw [h]
    simp [outT]
  · have := putK_len k v hw hl
    simpa [putS] using this
theorem long_p {s : List UInt8} {k : Kd} {v : WV} (hs : schemaP s = some [k]) (hf : fitsK k v = true) (hl : longV v = true) : putP s [v] = ([], 3) := by
  unfold putP; rw [hs]; simp only; rw [if_pos (by simp [fitsS, hf]), if_pos (by simp [hl])]
theorem long_wb {N : Nat} (r : List UInt8) (h : 262144 < N) (hn : N < p64) : wholeP [98] (putW N ++ r) = ([], 40) := by
  have hs : schemaP [98] = some [.bytes] := rfl
  unfold wholeP takeP
  rw [hs]
  have h1 : takeK .bytes (putW N ++ r) = none := by unfold takeK; simp only [get_put hn]; simp; omega
  simp [takeS, h1, outT]
theorem long_wl {N : Nat} (r : List UInt8) (h : 4096 < N) (hn : N < p64) : wholeP [108] (putW N ++ r) = ([], 40) := by
  have hs : schemaP [108] = some [.row] := rfl
  unfold wholeP takeP
  rw [hs]
  have h1 : takeK .row (putW N ++ r) = none := by unfold takeK; simp only [get_put hn]; simp; omega
  simp [takeS, h1, outT]
theorem vrd_lit {w W : World} {r : Wr} (h : r.Rd w) (hb : Below w.heap.size w W) : VRd (W.alloc (.cells r.cells.toArray 38)) (some ⟨W.heap.size, 0, none⟩) 1 [r] :=
  ⟨lit_one W r 38 rfl, rfl, fun x hx => by rw [List.mem_singleton.1 hx]; exact (h.ext hb).ext (below_1 W _), by simp⟩
theorem made_b {w6 : World} {base g t : Nat} (h : w6.ownsRow base 5 1 (.slice (some ⟨g, 0, none⟩) t t) t (madeCells (Value.int .u8 0).cells (t * 1)).toList) : BySl w6 w6.heap.size (some ⟨g, 0, none⟩) (List.replicate t 0) := by
  have e := FForm.made_flat encB_len (by decide) (0 : UInt8) (.int .u8 0) (by rfl) t
  have h2 : Own w6 base 5 1 encB (.slice (some ⟨g, 0, none⟩) t t) (List.replicate t 0) := by
    unfold Own
    rw [List.length_replicate, ← e]
    exact h
  exact h2.sls encB_len
theorem made_n {w6 : World} {base g t : Nat} (h : w6.ownsRow base 34 1 (.slice (some ⟨g, 0, none⟩) t t) t (madeCells (Value.int .u64 0).cells (t * 1)).toList) : Sl w6 w6.heap.size 1 encN (some ⟨g, 0, none⟩) (List.replicate t 0) := by
  have e := FForm.made_flat encN_len (by decide) (0 : Nat) (.int .u64 0) (by rfl) t
  have h2 : Own w6 base 34 1 encN (.slice (some ⟨g, 0, none⟩) t t) (List.replicate t 0) := by
    unfold Own
    rw [List.length_replicate, ← e]
    exact h
  exact h2.sls encN_len
def vB (N : Nat) : WV := ⟨0, 0, false, List.replicate N 0, []⟩
def vL (N : Nat) : WV := ⟨0, 0, false, [], List.replicate N 0⟩
theorem vB_wf {N : Nat} (h : N ≤ 1000000) : (vB N).Wf := ⟨by simp [vB, p64], by simp [vB], by simp [vB], by simp [vB], by simpa [vB] using h, by simp [vB]⟩
theorem vL_wf {N : Nat} (h : N ≤ 1000000) : (vL N).Wf := ⟨by simp [vL, p64], by simp [vL], by simp [vL], by intro x hx; have := List.eq_of_mem_replicate hx; subst this; decide, by simp [vL], by simpa [vL] using h⟩
/-- the value that stands at g -/
structure At (w W : World) (g : Nat) (C : Array Value) (r : Wr) : Prop where
  blk : Blk W g 38 C
  be : Below w.heap.size w W
  rd : r.Rd W
  cs : C = r.cells.toArray
  ge : w.heap.size ≤ g
theorem At.ext {w W W' : World} {g : Nat} {C : Array Value} {r : Wr} (h : At w W g C r) (hb : Below W.heap.size W W') : At w W' g C r := ⟨h.blk.ext hb, ext_under h.be (Nat.le_refl _) hb, h.rd.ext hb, h.cs, h.ge⟩
theorem At.lit {w W : World} {g : Nat} {C : Array Value} {r : Wr} (h : At w W g C r) : VRd (W.alloc (.cells C 38)) (some ⟨W.heap.size, 0, none⟩) 1 [r] := by rw [h.cs]; exact vrd_lit h.rd (Below.refl _ _)
theorem at_new {w w6 : World} {N : Nat} (hs : BySl w6 w6.heap.size (some ⟨w.heap.size, 0, none⟩) (List.replicate N 0)) (hb : Below w.heap.size w w6) (hN : N ≤ 1000000) :
    At w (w6.alloc (.cells #[.int .u64 0, .int .i64 0, .bool false, .slice (some ⟨w.heap.size, 0, none⟩) N N, .slice none 0 0] 38)) w6.heap.size #[.int .u64 0, .int .i64 0, .bool false, .slice (some ⟨w.heap.size, 0, none⟩) N N, .slice none 0 0] ⟨vB N, some ⟨w.heap.size, 0, none⟩, N, N, none, 0, 0⟩ :=
  ⟨Blk.new _ _ _, hb.alloc hb.size _, ⟨hs.ext (below_1 _ _), by simp [vB], fun h => absurd rfl h, rfl, vB_wf hN⟩, rfl, hb.size⟩
theorem bcellL {W w1 : World} (hb : Below W.heap.size W w1) : (∀ b o, b < W.heap.size → w1.cell? ⟨b, o, none⟩ = W.cell? ⟨b, o, none⟩) ∧ (∀ b o, b < W.heap.size → w1.frozen? ⟨b, o, none⟩ = W.frozen? ⟨b, o, none⟩) :=
  ⟨fun b o h => hb.cell (p := ⟨b, o, none⟩) h, fun b o h => hb.frozen (p := ⟨b, o, none⟩) h⟩
theorem putW_len' {n : Nat} (h : n < p64) : (putW n).length ≤ 10 := by have := putW_len (p64_lt h); omega
theorem same_lit {w W : World} {g B : Nat} {C : Array Value} {r : Wr} {rs : List Wr} {A : Option Addr} {n c : Nat} (h : At w W g C r) (hrs : rs.map Wr.v = [r.v]) (hvo : VOwn B W A n c rs) :
    Calls Try.prog 22 #[.slice A n c, .slice (some ⟨W.heap.size, 0, none⟩) 1 1] (W.alloc (.cells C 38)) fun e w' => e = .returned (.bool true) ∧ Below (W.alloc (.cells C 38)).heap.size (W.alloc (.cells C 38)) w' := by
  have hl : rs.length = 1 := by simpa using congrArg List.length hrs
  refine (Same_any rs [r] A _ n 1 c 1 _ ((VOwn.rd hvo (by omega)).ext (below_1 _ _)) h.lit).mono ?_
  rintro e w6 ⟨rfl, hb6⟩
  rw [hrs]
  exact ⟨by rw [show [r.v] = [r].map Wr.v from rfl, eqVs_self], hb6⟩
theorem At.num {w wg w7 w8 : World} {g M : Nat} {C : Array Value} {r : Wr} (h : At w wg g C r) (hb : Below wg.heap.size wg w7) (hs : Sl w7 w7.heap.size 1 encN (some ⟨wg.heap.size, 0, none⟩) (List.replicate M 0)) (hk : Blk w8 g 38 #[.int .u64 0, .int .i64 0, .bool false, .slice none 0 0, .slice (some ⟨wg.heap.size, 0, none⟩) M M]) (hc : Chg (fun i => i = g) w7 w8) (hM : M ≤ 1000000) :
    At w w8 g #[.int .u64 0, .int .i64 0, .bool false, .slice none 0 0, .slice (some ⟨wg.heap.size, 0, none⟩) M M] ⟨vL M, none, 0, 0, some ⟨wg.heap.size, 0, none⟩, M, M⟩ := by
  have hlt := h.blk.lt
  have h1 := ext_under h.be (Nat.le_refl _) hb
  have h2 := hs.chgN hc (fun _ k hk e => by simp [blockOf] at hk; omega)
  have hn : Sl w8 w8.heap.size 1 encB none ([] : List UInt8) := fun h => absurd rfl h
  exact ⟨hk, h1.trans (hc.below h1.size fun i hi e => by have := h.ge; omega), ⟨hn, rfl, h2, by simp [vL], vL_wf hM⟩, rfl, h.ge⟩
set_option maxHeartbeats 4000000 in
set_option maxRecDepth 100000 in
theorem walk (mo : Int) (row : Bool) (w : World) : Calls Try.prog 5 #[.int .i64 mo, .bool row] w fun e w' => e = .returned (.bool true) ∧ Below w.heap.size w w' := by
  by_cases hm1 : mo < -2
  · have d1 : decide (mo < -2) = true := decide_eq_true hm1
    go_enter Try.func5, Try.ntmps5; go_wp2; go_ret; exact ⟨rfl, Below.refl _ _⟩
  have d1 : decide (mo < -2) = false := decide_eq_false hm1
  by_cases hm2 : 2 < mo
  · have d2 : decide (2 < mo) = true := decide_eq_true hm2
    go_enter Try.func5, Try.ntmps5; go_wp2; go_ret; exact ⟨rfl, Below.refl _ _⟩
  have d2 : decide (2 < mo) = false := decide_eq_false hm2
  obtain ⟨N, hN⟩ : ∃ N : Nat, (N : Int) = 262144 + mo := ⟨(262144 + mo).toNat, by omega⟩
  obtain ⟨M, hM⟩ : ∃ M : Nat, (M : Int) = 4096 + mo := ⟨(4096 + mo).toNat, by omega⟩
  have HN := Lib.hid hN
  have HM4 := Lib.hid hM
  have HNb : Hid (262142 ≤ N ∧ N ≤ 262146) := ⟨by omega, by omega⟩
  have HMb : Hid (4094 ≤ M ∧ M ≤ 4098) := ⟨by omega, by omega⟩
  have hmo1 : -2 ≤ mo := by omega
  have hmo2 : mo ≤ 2 := by omega
  clear hN hM hm1 hm2
  obtain ⟨b0, hbi, hb0, hb1', hb2⟩ := info_parts Word.byInfo
  obtain ⟨n0, hni, hn0, hn1', hn2⟩ := info_parts nInfo
  cases row with
  | false =>
    go_enter Try.func5, Try.ntmps5
    go_upto_region 8 with (first | (at_make; refine wpList_make_full _ rfl _ _ 25 rfl w.heap.size 5 b0 _ 1 Try.underlying25 hbi hb0 hb1' _ _ _ _ N rfl rfl (by have := HN.out; omega) (by have := HN.out; omega) (by rw [hb2]; have := HNb.out; omega) (by unfold maxLen; have := HNb.out; omega) (Nat.le_refl _) ?_; intro w6 hmk hgr; have HM := Lib.hid (And.intro (made_b hmk) (Below.grown (Below.refl w.heap.size w) hgr (Nat.le_refl _) (by simp))); clear hmk hgr) | (with_reducible refine wpList_store_new _ rfl 38 (.tmp 6) (.tmp 23) rfl _ _ rfl rfl (zV _ _ _ _ _) rfl (one5 _ _ _ _ _ _ _ _ _) ?_))
    have HG : Hid (At w (w6.alloc (.cells #[.int .u64 0, .int .i64 0, .bool false, .slice (some ⟨w.heap.size, 0, none⟩) N N, .slice none 0 0] 38)) w6.heap.size #[.int .u64 0, .int .i64 0, .bool false, .slice (some ⟨w.heap.size, 0, none⟩) N N, .slice none 0 0] ⟨vB N, some ⟨w.heap.size, 0, none⟩, N, N, none, 0, 0⟩) :=
      at_new HM.out.1 HM.out.2 (by have := HNb.out; omega)
    generalize w6.heap.size = g at *
    generalize hwg : w6.alloc _ = wg at *
    clear hwg HM w6
    have hNn : N ≤ 262146 := HNb.out.2
    have k0 := HG.out.blk.cell 0; have k1 := HG.out.blk.cell 1; have k2 := HG.out.blk.cell 2; have k3 := HG.out.blk.cell 3; have k4 := HG.out.blk.cell 4; simp only [List.getElem?_toArray, List.getElem?_cons_zero, List.getElem?_cons_succ] at k0 k1 k2 k3 k4
    by_cases hbig : 0 < mo
    · have f1 : decide (0 < mo) = true := decide_eq_true hbig
      have hput : Hid (∀ W g C r, At w W g C r → r.v = vB N → Calls Try.prog 18 #[.string ⟨#[98]⟩, .slice (some ⟨W.heap.size, 0, none⟩) 1 1] (W.alloc (.cells C 38)) (RetPut (W.alloc (.cells C 38)) ([], 3))) := by
        intro W g C r hA hv
        have h := put_any' ⟨#[98]⟩ [r] _ 1 1 _ (by decide) hA.lit
        rw [show putP (⟨#[98]⟩ : ByteArray).data.toList ([r].map Wr.v) = ([], 3) from by rw [List.map_cons, List.map_nil, hv]; exact long_p (k := .bytes) rfl (by simp [fitsK, vB, vL]) (by have h1 := HN.out; have h2 := HM4.out; simp [longV, vB, vL]; omega)] at h
        exact h
      have hwh : Hid (∀ (A : Option Addr) (n cap : Nat) (W : World), BySl W W.heap.size A (putW N ++ List.replicate N 0) → n = (putW N ++ List.replicate N (0 : UInt8)).length → n ≤ cap → Calls Try.prog 26 #[.string ⟨#[98]⟩, .slice A n cap] W (RetWhole W ([], 40))) := by
        intro A n cap W hl hn hc
        have hpl := putW_len' (show N < p64 by unfold p64; omega)
        have h := whole_any ⟨#[98]⟩ _ A n cap W (by decide) hl hn hc (by rw [hn]; simp; omega)
        rw [show wholeP (⟨#[98]⟩ : ByteArray).data.toList (putW N ++ List.replicate N 0) = ([], 40) from long_wb _ (by have h1 := HN.out; have h2 := HM4.out; omega) (by unfold p64; omega)] at h
        exact h
      go_upto_region 10 with (go_at_call 18; refine (hput.out _ _ _ _ HG.out rfl).mono ?_; rintro e w4 ⟨hb4, A4, n4, c4, rfl, ho4, hf4⟩; have HG4 := Lib.hid (HG.out.ext ((below_1 _ _).trans (hb4.mono (by simp)))); obtain ⟨A0, n0', c0, hv0, hn4, hle4, hmx4, _⟩ := ho4.form; cases hv0; obtain rfl : n4 = 0 := hn4; clear hb4 ho4 hf4 k0 k1 k2 k3 k4)
      clear HG hput
      have HG := HG4
      clear HG4
      have k0 := HG.out.blk.cell 0; have k1 := HG.out.blk.cell 1; have k2 := HG.out.blk.cell 2; have k3 := HG.out.blk.cell 3; have k4 := HG.out.blk.cell 4; simp only [List.getElem?_toArray, List.getElem?_cons_zero, List.getElem?_cons_succ] at k0 k1 k2 k3 k4
      have hg : g < w4.heap.size := HG.out.blk.lt
      have hwr1 : IntKind.i64.wrap (N : Int) = (N : Int) := by rw [IntKind.wrap_i64]; omega
      have hwr2 : IntKind.u64.wrap (N : Int) = (N : Int) := by rw [IntKind.wrap_u64]; omega
      have hS0 : Below w4.heap.size w4 w4.drew := (Below.refl _ _).drew
      refine wp_region_held_drew (S := fun w' => Below w4.heap.size w4 w') (by kernel_rfl) hS0 (fun hHeld => ?_)
      try simp only [Act.put, List.setIfInBounds_toArray, List.set_cons_zero, List.set_cons_succ]
      (refine wpAnyH_take (i := 0) (oi := { dst := some 38, op := _, type := _, pos := _, after := _, guard := _ }) (v := ?_) rfl (by kernel_rfl) (by kernel_rfl) (by kernel_rfl) (fun _ _ _ h => h) (Or.inl ⟨by kernel_rfl, (by intro W' hS'; obtain ⟨hq1, hq2⟩ := bcellL hS'; go_simp; try with_reducible rfl)⟩) (by assumption) ?_; (try simp only [Act.put, List.setIfInBounds_toArray, List.set_cons_zero, List.set_cons_succ]))
      (refine wpAnyH_take (i := 1) (oi := { dst := some 39, op := _, type := _, pos := _, after := _, guard := _ }) (v := ?_) rfl (by kernel_rfl) (by kernel_rfl) (by kernel_rfl) (fun _ _ _ h => h) (Or.inl ⟨by kernel_rfl, (by intro W' hS'; obtain ⟨hq1, hq2⟩ := bcellL hS'; go_simp; try with_reducible rfl)⟩) (by assumption) ?_; (try simp only [Act.put, List.setIfInBounds_toArray, List.set_cons_zero, List.set_cons_succ]))
      (refine wpAnyH_take (i := 2) (oi := { dst := some 40, op := _, type := _, pos := _, after := _, guard := _ }) (v := ?_) rfl (by kernel_rfl) (by kernel_rfl) (by kernel_rfl) (fun _ _ _ h => h) (Or.inl ⟨by kernel_rfl, (by intro W' hS'; obtain ⟨hq1, hq2⟩ := bcellL hS'; go_simp; try with_reducible rfl)⟩) (by assumption) ?_; (try simp only [Act.put, List.setIfInBounds_toArray, List.set_cons_zero, List.set_cons_succ]))
      (refine wpAnyH_take (i := 3) (oi := { dst := some 41, op := _, type := _, pos := _, after := _, guard := _ }) (v := ?_) rfl (by kernel_rfl) (by kernel_rfl) (by kernel_rfl) (fun _ _ _ h => h) (Or.inl ⟨by kernel_rfl, (by intro W' hS'; obtain ⟨hq1, hq2⟩ := bcellL hS'; go_simp; try with_reducible rfl)⟩) (by assumption) ?_; (try simp only [Act.put, List.setIfInBounds_toArray, List.set_cons_zero, List.set_cons_succ]))
      (refine wpAnyH_take (i := 4) (oi := { dst := some 42, op := _, type := _, pos := _, after := _, guard := _ }) (v := ?_) rfl (by kernel_rfl) (by kernel_rfl) (by kernel_rfl) (fun _ _ _ h => h) (Or.inl ⟨by kernel_rfl, (by intro W' hS'; obtain ⟨hq1, hq2⟩ := bcellL hS'; go_simp; try with_reducible rfl)⟩) (by assumption) ?_; (try simp only [Act.put, List.setIfInBounds_toArray, List.set_cons_zero, List.set_cons_succ]))
      (refine wpAnyH_take (i := 5) (oi := { dst := some 43, op := _, type := _, pos := _, after := _, guard := _ }) (v := ?_) rfl (by kernel_rfl) (by kernel_rfl) (by kernel_rfl) (fun _ _ _ h => h) (Or.inl ⟨by kernel_rfl, (by intro W' hS'; obtain ⟨hq1, hq2⟩ := bcellL hS'; go_simp; try with_reducible rfl)⟩) (by assumption) ?_; (try simp only [Act.put, List.setIfInBounds_toArray, List.set_cons_zero, List.set_cons_succ]))
      (refine wpAnyH_take (i := 6) (oi := { dst := some 44, op := _, type := _, pos := _, after := _, guard := _ }) (v := ?_) rfl (by kernel_rfl) (by kernel_rfl) (by kernel_rfl) (fun _ _ _ h => h) (Or.inl ⟨by kernel_rfl, (by intro W' hS'; obtain ⟨hq1, hq2⟩ := bcellL hS'; go_simp; try with_reducible rfl)⟩) (by assumption) ?_; (try simp only [Act.put, List.setIfInBounds_toArray, List.set_cons_zero, List.set_cons_succ]))
      (refine wpAnyH_take (i := 7) (oi := { dst := some 45, op := _, type := _, pos := _, after := _, guard := _ }) (v := ?_) rfl (by kernel_rfl) (by kernel_rfl) (by kernel_rfl) (fun _ _ _ h => h) (Or.inl ⟨by kernel_rfl, (by intro W' hS'; obtain ⟨hq1, hq2⟩ := bcellL hS'; go_simp; try with_reducible rfl)⟩) (by assumption) ?_; (try simp only [Act.put, List.setIfInBounds_toArray, List.set_cons_zero, List.set_cons_succ]))
      (refine wpAnyH_take (i := 9) (oi := { dst := some 47, op := _, type := _, pos := _, after := _, guard := _ }) (v := ?_) rfl (by kernel_rfl) (by kernel_rfl) (by kernel_rfl) (fun _ _ _ h => h) (Or.inl ⟨by kernel_rfl, (by intro W' hS'; obtain ⟨hq1, hq2⟩ := bcellL hS'; go_simp; try with_reducible rfl)⟩) (by assumption) ?_; (try simp only [Act.put, List.setIfInBounds_toArray, List.set_cons_zero, List.set_cons_succ]))
      (refine wpAnyH_take (i := 10) (oi := { dst := some 48, op := _, type := _, pos := _, after := _, guard := _ }) (v := ?_) rfl (by kernel_rfl) (by kernel_rfl) (by kernel_rfl) (fun _ _ _ h => h) (Or.inl ⟨by kernel_rfl, (by intro W' hS'; obtain ⟨hq1, hq2⟩ := bcellL hS'; go_simp; try with_reducible rfl)⟩) (by assumption) ?_; (try simp only [Act.put, List.setIfInBounds_toArray, List.set_cons_zero, List.set_cons_succ]))
      (refine wpAnyH_take (i := 11) (oi := { dst := some 49, op := _, type := _, pos := _, after := _, guard := _ }) (v := ?_) rfl (by kernel_rfl) (by kernel_rfl) (by kernel_rfl) (fun _ _ _ h => h) (Or.inl ⟨by kernel_rfl, (by intro W' hS'; obtain ⟨hq1, hq2⟩ := bcellL hS'; go_simp; try with_reducible rfl)⟩) (by assumption) ?_; (try simp only [Act.put, List.setIfInBounds_toArray, List.set_cons_zero, List.set_cons_succ]))
      (refine wpAnyH_take (i := 12) (oi := { dst := some 50, op := _, type := _, pos := _, after := _, guard := _ }) (v := ?_) rfl (by kernel_rfl) (by kernel_rfl) (by kernel_rfl) (fun _ _ _ h => h) (Or.inl ⟨by kernel_rfl, (by intro W' hS'; obtain ⟨hq1, hq2⟩ := bcellL hS'; go_simp; try with_reducible rfl)⟩) (by assumption) ?_; (try simp only [Act.put, List.setIfInBounds_toArray, List.set_cons_zero, List.set_cons_succ]))
      (refine wpAnyH_take (i := 13) (oi := { dst := some 51, op := _, type := _, pos := _, after := _, guard := _ }) (v := ?_) rfl (by kernel_rfl) (by kernel_rfl) (by kernel_rfl) (fun _ _ _ h => h) (Or.inl ⟨by kernel_rfl, (by intro W' hS'; obtain ⟨hq1, hq2⟩ := bcellL hS'; go_simp; try with_reducible rfl)⟩) (by assumption) ?_; (try simp only [Act.put, List.setIfInBounds_toArray, List.set_cons_zero, List.set_cons_succ]))
      (refine wpAnyH_take (i := 14) (oi := { dst := some 52, op := _, type := _, pos := _, after := _, guard := _ }) (v := ?_) rfl (by kernel_rfl) (by kernel_rfl) (by kernel_rfl) (fun _ _ _ h => h) (Or.inl ⟨by kernel_rfl, (by intro W' hS'; obtain ⟨hq1, hq2⟩ := bcellL hS'; go_simp; try with_reducible rfl)⟩) (by assumption) ?_; (try simp only [Act.put, List.setIfInBounds_toArray, List.set_cons_zero, List.set_cons_succ]))
      (refine wpAnyH_take (i := 15) (oi := { dst := some 53, op := _, type := _, pos := _, after := _, guard := _ }) (v := ?_) rfl (by kernel_rfl) (by kernel_rfl) (by kernel_rfl) (fun _ _ _ h => h) (Or.inl ⟨by kernel_rfl, (by intro W' hS'; obtain ⟨hq1, hq2⟩ := bcellL hS'; go_simp; try with_reducible rfl)⟩) (by assumption) ?_; (try simp only [Act.put, List.setIfInBounds_toArray, List.set_cons_zero, List.set_cons_succ]))
      refine wpAnyH_ready (rs := [8]) (by kernel_rfl) (by simp) ?_
      refine AllReadyH.cons (o := { dst := some 46, op := _, type := _, pos := _, after := _, guard := _ }) rfl (fun K hK => ?_) AllReadyH.nil
      go_simp
      refine (rput N (by unfold p64; omega) _).mono ?_; rintro e w6 ⟨v6, rfl, hown6, hb6⟩
      have hS6 : Below w4.heap.size w4 w6 := ext_under hHeld (Nat.le_refl _) hb6
      refine hK.out _ _ hS6 (fun hHeld2 => ?_)
      clear hK K
      try simp only [Act.put, List.setIfInBounds_toArray, List.set_cons_zero, List.set_cons_succ]
      refine wpAnyH_ready (rs := [16]) (by kernel_rfl) (by simp) ?_
      refine AllReadyH.cons (o := { dst := some 54, op := _, type := _, pos := _, after := _, guard := _ }) rfl (fun K hK => ?_) AllReadyH.nil
      refine Eq.mpr (if_pos (by kernel_rfl)) ?_
      have hpl := putW_len' (show N < p64 by unfold p64; omega)
      refine wp_append_za (.tmp 46) (.tmp 53) rfl v6 (putW N) (by first | rfl | trace_state) (OwnA.of_own hown6) N (by first | rfl | trace_state) (by have h1 := HN.out; have h2 := HM4.out; omega) (by omega) ?_
      intro v7 w7 hown7 hchg7 hat7
      have hf6 : ∀ k, v6.ownBlock = some k → w4.heap.size ≤ k := fun k hk => by have := (hown6.lt hk).1; have := hHeld.size; omega
      have hS7 : Below w4.heap.size w4 w7 := hS6.trans (hchg7.below hS6.size fun i hi hs => by have := hf6 i hs; omega)
      refine hK.out _ _ hS7 (fun hHeld3 => ?_)
      clear hK K
      try simp only [Act.put, List.setIfInBounds_toArray, List.set_cons_zero, List.set_cons_succ]
      (refine wpAnyH_take (i := 17) (oi := { dst := some 9, op := _, type := _, pos := _, after := _, guard := _ }) (v := ?_) rfl (by kernel_rfl) (by kernel_rfl) (by kernel_rfl) (fun _ _ _ h => h) (Or.inl ⟨by kernel_rfl, (by intro W' hS'; obtain ⟨hq1, hq2⟩ := bcellL hS'; go_simp; try with_reducible rfl)⟩) (by assumption) ?_; (try simp only [Act.put, List.setIfInBounds_toArray, List.set_cons_zero, List.set_cons_succ]))
      refine wpAnyH_done (by kernel_rfl) ?_ _
      obtain ⟨A7, n7, c7, rfl, hn7, hle7, hmx7, _⟩ := hown7.form
      have HG7 := Lib.hid (HG.out.ext hS7)
      have HO7 := Lib.hid hown7
      have hn7' : Hid (n7 = _) := hn7
      clear hn7 hown7 hchg7 hat7 hown6 hb6 hf6 hS6 hS7 hHeld hHeld2 hHeld3 hS0 HG
      go_wp2_with (go_at_call 26; refine (hwh.out _ _ _ _ (HO7.out.sl encB_len) hn7'.out hle7).mono ?_; rintro e w8 ⟨hb8, A8, n8, c8, rs, rfl, hrs, hvo⟩; have HB8 := Lib.hid (ext_under HG7.out.be (Nat.le_refl _) hb8); clear hb8 hrs hvo)
      go_ret
      exact ⟨rfl, HB8.out⟩
    · have f1 : decide (0 < mo) = false := decide_eq_false hbig
      obtain ⟨p, hp1, hp2, hp3⟩ := short_p (s := [98]) (k := .bytes) (v := vB N) rfl (by simp [fitsK, vB, vL]) HG.out.rd.wf (by have h1 := HN.out; have h2 := HM4.out; simp [longV, vB, vL]; omega)
      have HP := Lib.hid (And.intro hp1 (And.intro hp2 hp3))
      have hput : Hid (∀ W g C r, At w W g C r → r.v = vB N → Calls Try.prog 18 #[.string ⟨#[98]⟩, .slice (some ⟨W.heap.size, 0, none⟩) 1 1] (W.alloc (.cells C 38)) (RetPut (W.alloc (.cells C 38)) (p, 0))) := by
        intro W g C r hA hv
        have h := put_any' ⟨#[98]⟩ [r] _ 1 1 _ (by decide) hA.lit
        rw [show putP (⟨#[98]⟩ : ByteArray).data.toList ([r].map Wr.v) = (p, 0) from by rw [List.map_cons, List.map_nil, hv]; exact hp1] at h
        exact h
      have hwh : Hid (∀ (A : Option Addr) (n cap : Nat) (W : World), BySl W W.heap.size A p → n = p.length → n ≤ cap → Calls Try.prog 26 #[.string ⟨#[98]⟩, .slice A n cap] W (RetWhole W ([vB N], 0))) := by
        intro A n cap W hl hn hc
        have h := whole_any ⟨#[98]⟩ p A n cap W (by decide) hl hn hc (by omega)
        rw [show wholeP (⟨#[98]⟩ : ByteArray).data.toList p = ([vB N], 0) from hp2] at h
        exact h
      clear hp1 hp2 hp3
      go_upto_region 9 with (go_at_call 18; refine (hput.out _ _ _ _ HG.out rfl).mono ?_; rintro e w4 ⟨hb4, A4, n4, c4, rfl, ho4, hf4⟩; have HG4 := Lib.hid (HG.out.ext ((below_1 _ _).trans (hb4.mono (by simp)))); have HO4 := Lib.hid ho4; obtain ⟨A0, n0', c0, hv0, hn4, hle4, hmx4, _⟩ := ho4.form; cases hv0; have HN4 := Lib.hid hn4; clear hb4 ho4 hf4 hn4 k0 k1 k2 k3 k4)
      have hn4 : Hid (n4 = p.length) := HO4.out.len
      have hn4b : n4 ≤ 300000 := by rw [hn4.out]; exact HP.out.2.2
      clear HG hput
      have HG := HG4
      clear HG4
      have k0 := HG.out.blk.cell 0; have k1 := HG.out.blk.cell 1; have k2 := HG.out.blk.cell 2; have k3 := HG.out.blk.cell 3; have k4 := HG.out.blk.cell 4; simp only [List.getElem?_toArray, List.getElem?_cons_zero, List.getElem?_cons_succ] at k0 k1 k2 k3 k4
      go_upto_region 14 with (go_at_call 26; refine (hwh.out _ _ _ _ (HO4.out.sl encB_len) hn4.out hle4).mono ?_; rintro e w5 ⟨hb5, A5, n5, c5, rs, rfl, hrs, hvo⟩; have HG5 := Lib.hid (HG.out.ext hb5); have HV5 := Lib.hid (And.intro hrs hvo); clear hb5 hrs hvo k0 k1 k2 k3 k4)
      clear HG hwh HO4
      have HG := HG5
      clear HG5
      have k0 := HG.out.blk.cell 0; have k1 := HG.out.blk.cell 1; have k2 := HG.out.blk.cell 2; have k3 := HG.out.blk.cell 3; have k4 := HG.out.blk.cell 4; simp only [List.getElem?_toArray, List.getElem?_cons_zero, List.getElem?_cons_succ] at k0 k1 k2 k3 k4
      go_wp2_with (go_at_call 22; refine (same_lit HG.out HV5.out.1 HV5.out.2).mono ?_; rintro e w6 ⟨rfl, hb6⟩)
      go_ret
      exact ⟨rfl, ext_under HG.out.be (Nat.le_refl _) ((below_1 _ _).trans (hb6.mono (by simp)))⟩
  | true =>
    go_enter Try.func5, Try.ntmps5
    go_upto_region 5 with (first | (at_make; refine wpList_make_full _ rfl _ _ 25 rfl w.heap.size 5 b0 _ 1 Try.underlying25 hbi hb0 hb1' _ _ _ _ N rfl rfl (by have := HN.out; omega) (by have := HN.out; omega) (by rw [hb2]; have := HNb.out; omega) (by unfold maxLen; have := HNb.out; omega) (Nat.le_refl _) ?_; intro w6 hmk hgr; have HM := Lib.hid (And.intro (made_b hmk) (Below.grown (Below.refl w.heap.size w) hgr (Nat.le_refl _) (by simp))); clear hmk hgr) | (with_reducible refine wpList_store_new _ rfl 38 (.tmp 6) (.tmp 23) rfl _ _ rfl rfl (zV _ _ _ _ _) rfl (one5 _ _ _ _ _ _ _ _ _) ?_))
    have HG : Hid (At w (w6.alloc (.cells #[.int .u64 0, .int .i64 0, .bool false, .slice (some ⟨w.heap.size, 0, none⟩) N N, .slice none 0 0] 38)) w6.heap.size #[.int .u64 0, .int .i64 0, .bool false, .slice (some ⟨w.heap.size, 0, none⟩) N N, .slice none 0 0] ⟨vB N, some ⟨w.heap.size, 0, none⟩, N, N, none, 0, 0⟩) :=
      at_new HM.out.1 HM.out.2 (by have := HNb.out; omega)
    generalize w6.heap.size = g at *
    generalize hwg : w6.alloc _ = wg at *
    clear hwg HM w6
    go_upto_region 8 with (first | (at_make; refine wpList_make_full _ rfl _ _ 36 rfl wg.heap.size 34 n0 _ 1 Try.underlying36 hni hn0 hn1' _ _ _ _ M rfl rfl (by have := HM4.out; omega) (by have := HM4.out; omega) (by rw [hn2]; have := HMb.out; omega) (by unfold maxLen; have := HMb.out; omega) (Nat.le_refl _) ?_; intro w7 hmk hgr; have HM7 := Lib.hid (And.intro (made_n hmk) (Below.grown (Below.refl wg.heap.size wg) hgr (Nat.le_refl _) (by simp))); clear hmk hgr) | (refine wpList_store_wr rfl (.tmp 6) (.tmp 28) rfl (by rfl) _ _ _ _ _ _ _ _ _ rfl rfl (HG.out.blk.ext HM7.out.2) ?_; intro w8 hk8 hc8; have HG8 := Lib.hid (At.num HG.out HM7.out.2 HM7.out.1 hk8 hc8 (by have := HMb.out; omega)); clear hk8 hc8))
    clear HG HM7
    have HG := HG8
    clear HG8
    have hNn : M ≤ 4098 := HMb.out.2
    have k0 := HG.out.blk.cell 0; have k1 := HG.out.blk.cell 1; have k2 := HG.out.blk.cell 2; have k3 := HG.out.blk.cell 3; have k4 := HG.out.blk.cell 4; simp only [List.getElem?_toArray, List.getElem?_cons_zero, List.getElem?_cons_succ] at k0 k1 k2 k3 k4
    by_cases hbig : 0 < mo
    · have f1 : decide (0 < mo) = true := decide_eq_true hbig
      have hput : Hid (∀ W g C r, At w W g C r → r.v = vL M → Calls Try.prog 18 #[.string ⟨#[108]⟩, .slice (some ⟨W.heap.size, 0, none⟩) 1 1] (W.alloc (.cells C 38)) (RetPut (W.alloc (.cells C 38)) ([], 3))) := by
        intro W g C r hA hv
        have h := put_any' ⟨#[108]⟩ [r] _ 1 1 _ (by decide) hA.lit
        rw [show putP (⟨#[108]⟩ : ByteArray).data.toList ([r].map Wr.v) = ([], 3) from by rw [List.map_cons, List.map_nil, hv]; exact long_p (k := .row) rfl (by simp [fitsK, vB, vL]) (by have h1 := HN.out; have h2 := HM4.out; simp [longV, vB, vL]; omega)] at h
        exact h
      have hwh : Hid (∀ (A : Option Addr) (n cap : Nat) (W : World), BySl W W.heap.size A (putW M ++ List.replicate M 0) → n = (putW M ++ List.replicate M (0 : UInt8)).length → n ≤ cap → Calls Try.prog 26 #[.string ⟨#[108]⟩, .slice A n cap] W (RetWhole W ([], 40))) := by
        intro A n cap W hl hn hc
        have hpl := putW_len' (show M < p64 by unfold p64; omega)
        have h := whole_any ⟨#[108]⟩ _ A n cap W (by decide) hl hn hc (by rw [hn]; simp; omega)
        rw [show wholeP (⟨#[108]⟩ : ByteArray).data.toList (putW M ++ List.replicate M 0) = ([], 40) from long_wl _ (by have h1 := HN.out; have h2 := HM4.out; omega) (by unfold p64; omega)] at h
        exact h
      go_upto_region 10 with (go_at_call 18; refine (hput.out _ _ _ _ HG.out rfl).mono ?_; rintro e w4 ⟨hb4, A4, n4, c4, rfl, ho4, hf4⟩; have HG4 := Lib.hid (HG.out.ext ((below_1 _ _).trans (hb4.mono (by simp)))); obtain ⟨A0, n0', c0, hv0, hn4, hle4, hmx4, _⟩ := ho4.form; cases hv0; obtain rfl : n4 = 0 := hn4; clear hb4 ho4 hf4 k0 k1 k2 k3 k4)
      clear HG hput
      have HG := HG4
      clear HG4
      have k0 := HG.out.blk.cell 0; have k1 := HG.out.blk.cell 1; have k2 := HG.out.blk.cell 2; have k3 := HG.out.blk.cell 3; have k4 := HG.out.blk.cell 4; simp only [List.getElem?_toArray, List.getElem?_cons_zero, List.getElem?_cons_succ] at k0 k1 k2 k3 k4
      have hg : g < w4.heap.size := HG.out.blk.lt
      have hwr1 : IntKind.i64.wrap (M : Int) = (M : Int) := by rw [IntKind.wrap_i64]; omega
      have hwr2 : IntKind.u64.wrap (M : Int) = (M : Int) := by rw [IntKind.wrap_u64]; omega
      have hS0 : Below w4.heap.size w4 w4.drew := (Below.refl _ _).drew
      refine wp_region_held_drew (S := fun w' => Below w4.heap.size w4 w') (by kernel_rfl) hS0 (fun hHeld => ?_)
      try simp only [Act.put, List.setIfInBounds_toArray, List.set_cons_zero, List.set_cons_succ]
      (refine wpAnyH_take (i := 0) (oi := { dst := some 38, op := _, type := _, pos := _, after := _, guard := _ }) (v := ?_) rfl (by kernel_rfl) (by kernel_rfl) (by kernel_rfl) (fun _ _ _ h => h) (Or.inl ⟨by kernel_rfl, (by intro W' hS'; obtain ⟨hq1, hq2⟩ := bcellL hS'; go_simp; try with_reducible rfl)⟩) (by assumption) ?_; (try simp only [Act.put, List.setIfInBounds_toArray, List.set_cons_zero, List.set_cons_succ]))
      (refine wpAnyH_take (i := 1) (oi := { dst := some 39, op := _, type := _, pos := _, after := _, guard := _ }) (v := ?_) rfl (by kernel_rfl) (by kernel_rfl) (by kernel_rfl) (fun _ _ _ h => h) (Or.inl ⟨by kernel_rfl, (by intro W' hS'; obtain ⟨hq1, hq2⟩ := bcellL hS'; go_simp; try with_reducible rfl)⟩) (by assumption) ?_; (try simp only [Act.put, List.setIfInBounds_toArray, List.set_cons_zero, List.set_cons_succ]))
      (refine wpAnyH_take (i := 2) (oi := { dst := some 40, op := _, type := _, pos := _, after := _, guard := _ }) (v := ?_) rfl (by kernel_rfl) (by kernel_rfl) (by kernel_rfl) (fun _ _ _ h => h) (Or.inl ⟨by kernel_rfl, (by intro W' hS'; obtain ⟨hq1, hq2⟩ := bcellL hS'; go_simp; try with_reducible rfl)⟩) (by assumption) ?_; (try simp only [Act.put, List.setIfInBounds_toArray, List.set_cons_zero, List.set_cons_succ]))
      (refine wpAnyH_take (i := 3) (oi := { dst := some 41, op := _, type := _, pos := _, after := _, guard := _ }) (v := ?_) rfl (by kernel_rfl) (by kernel_rfl) (by kernel_rfl) (fun _ _ _ h => h) (Or.inl ⟨by kernel_rfl, (by intro W' hS'; obtain ⟨hq1, hq2⟩ := bcellL hS'; go_simp; try with_reducible rfl)⟩) (by assumption) ?_; (try simp only [Act.put, List.setIfInBounds_toArray, List.set_cons_zero, List.set_cons_succ]))
      (refine wpAnyH_take (i := 4) (oi := { dst := some 42, op := _, type := _, pos := _, after := _, guard := _ }) (v := ?_) rfl (by kernel_rfl) (by kernel_rfl) (by kernel_rfl) (fun _ _ _ h => h) (Or.inl ⟨by kernel_rfl, (by intro W' hS'; obtain ⟨hq1, hq2⟩ := bcellL hS'; go_simp; try with_reducible rfl)⟩) (by assumption) ?_; (try simp only [Act.put, List.setIfInBounds_toArray, List.set_cons_zero, List.set_cons_succ]))
      (refine wpAnyH_take (i := 5) (oi := { dst := some 43, op := _, type := _, pos := _, after := _, guard := _ }) (v := ?_) rfl (by kernel_rfl) (by kernel_rfl) (by kernel_rfl) (fun _ _ _ h => h) (Or.inl ⟨by kernel_rfl, (by intro W' hS'; obtain ⟨hq1, hq2⟩ := bcellL hS'; go_simp; try with_reducible rfl)⟩) (by assumption) ?_; (try simp only [Act.put, List.setIfInBounds_toArray, List.set_cons_zero, List.set_cons_succ]))
      (refine wpAnyH_take (i := 6) (oi := { dst := some 44, op := _, type := _, pos := _, after := _, guard := _ }) (v := ?_) rfl (by kernel_rfl) (by kernel_rfl) (by kernel_rfl) (fun _ _ _ h => h) (Or.inl ⟨by kernel_rfl, (by intro W' hS'; obtain ⟨hq1, hq2⟩ := bcellL hS'; go_simp; try with_reducible rfl)⟩) (by assumption) ?_; (try simp only [Act.put, List.setIfInBounds_toArray, List.set_cons_zero, List.set_cons_succ]))
      (refine wpAnyH_take (i := 7) (oi := { dst := some 45, op := _, type := _, pos := _, after := _, guard := _ }) (v := ?_) rfl (by kernel_rfl) (by kernel_rfl) (by kernel_rfl) (fun _ _ _ h => h) (Or.inl ⟨by kernel_rfl, (by intro W' hS'; obtain ⟨hq1, hq2⟩ := bcellL hS'; go_simp; try with_reducible rfl)⟩) (by assumption) ?_; (try simp only [Act.put, List.setIfInBounds_toArray, List.set_cons_zero, List.set_cons_succ]))
      (refine wpAnyH_take (i := 9) (oi := { dst := some 47, op := _, type := _, pos := _, after := _, guard := _ }) (v := ?_) rfl (by kernel_rfl) (by kernel_rfl) (by kernel_rfl) (fun _ _ _ h => h) (Or.inl ⟨by kernel_rfl, (by intro W' hS'; obtain ⟨hq1, hq2⟩ := bcellL hS'; go_simp; try with_reducible rfl)⟩) (by assumption) ?_; (try simp only [Act.put, List.setIfInBounds_toArray, List.set_cons_zero, List.set_cons_succ]))
      (refine wpAnyH_take (i := 10) (oi := { dst := some 48, op := _, type := _, pos := _, after := _, guard := _ }) (v := ?_) rfl (by kernel_rfl) (by kernel_rfl) (by kernel_rfl) (fun _ _ _ h => h) (Or.inl ⟨by kernel_rfl, (by intro W' hS'; obtain ⟨hq1, hq2⟩ := bcellL hS'; go_simp; try with_reducible rfl)⟩) (by assumption) ?_; (try simp only [Act.put, List.setIfInBounds_toArray, List.set_cons_zero, List.set_cons_succ]))
      (refine wpAnyH_take (i := 11) (oi := { dst := some 49, op := _, type := _, pos := _, after := _, guard := _ }) (v := ?_) rfl (by kernel_rfl) (by kernel_rfl) (by kernel_rfl) (fun _ _ _ h => h) (Or.inl ⟨by kernel_rfl, (by intro W' hS'; obtain ⟨hq1, hq2⟩ := bcellL hS'; go_simp; try with_reducible rfl)⟩) (by assumption) ?_; (try simp only [Act.put, List.setIfInBounds_toArray, List.set_cons_zero, List.set_cons_succ]))
      (refine wpAnyH_take (i := 12) (oi := { dst := some 50, op := _, type := _, pos := _, after := _, guard := _ }) (v := ?_) rfl (by kernel_rfl) (by kernel_rfl) (by kernel_rfl) (fun _ _ _ h => h) (Or.inl ⟨by kernel_rfl, (by intro W' hS'; obtain ⟨hq1, hq2⟩ := bcellL hS'; go_simp; try with_reducible rfl)⟩) (by assumption) ?_; (try simp only [Act.put, List.setIfInBounds_toArray, List.set_cons_zero, List.set_cons_succ]))
      (refine wpAnyH_take (i := 13) (oi := { dst := some 51, op := _, type := _, pos := _, after := _, guard := _ }) (v := ?_) rfl (by kernel_rfl) (by kernel_rfl) (by kernel_rfl) (fun _ _ _ h => h) (Or.inl ⟨by kernel_rfl, (by intro W' hS'; obtain ⟨hq1, hq2⟩ := bcellL hS'; go_simp; try with_reducible rfl)⟩) (by assumption) ?_; (try simp only [Act.put, List.setIfInBounds_toArray, List.set_cons_zero, List.set_cons_succ]))
      (refine wpAnyH_take (i := 14) (oi := { dst := some 52, op := _, type := _, pos := _, after := _, guard := _ }) (v := ?_) rfl (by kernel_rfl) (by kernel_rfl) (by kernel_rfl) (fun _ _ _ h => h) (Or.inl ⟨by kernel_rfl, (by intro W' hS'; obtain ⟨hq1, hq2⟩ := bcellL hS'; go_simp; try with_reducible rfl)⟩) (by assumption) ?_; (try simp only [Act.put, List.setIfInBounds_toArray, List.set_cons_zero, List.set_cons_succ]))
      (refine wpAnyH_take (i := 15) (oi := { dst := some 53, op := _, type := _, pos := _, after := _, guard := _ }) (v := ?_) rfl (by kernel_rfl) (by kernel_rfl) (by kernel_rfl) (fun _ _ _ h => h) (Or.inl ⟨by kernel_rfl, (by intro W' hS'; obtain ⟨hq1, hq2⟩ := bcellL hS'; go_simp; try with_reducible rfl)⟩) (by assumption) ?_; (try simp only [Act.put, List.setIfInBounds_toArray, List.set_cons_zero, List.set_cons_succ]))
      refine wpAnyH_ready (rs := [8]) (by kernel_rfl) (by simp) ?_
      refine AllReadyH.cons (o := { dst := some 46, op := _, type := _, pos := _, after := _, guard := _ }) rfl (fun K hK => ?_) AllReadyH.nil
      go_simp
      refine (rput M (by unfold p64; omega) _).mono ?_; rintro e w6 ⟨v6, rfl, hown6, hb6⟩
      have hS6 : Below w4.heap.size w4 w6 := ext_under hHeld (Nat.le_refl _) hb6
      refine hK.out _ _ hS6 (fun hHeld2 => ?_)
      clear hK K
      try simp only [Act.put, List.setIfInBounds_toArray, List.set_cons_zero, List.set_cons_succ]
      refine wpAnyH_ready (rs := [16]) (by kernel_rfl) (by simp) ?_
      refine AllReadyH.cons (o := { dst := some 54, op := _, type := _, pos := _, after := _, guard := _ }) rfl (fun K hK => ?_) AllReadyH.nil
      refine Eq.mpr (if_pos (by kernel_rfl)) ?_
      have hpl := putW_len' (show M < p64 by unfold p64; omega)
      refine wp_append_za (.tmp 46) (.tmp 53) rfl v6 (putW M) (by first | rfl | trace_state) (OwnA.of_own hown6) M (by first | rfl | trace_state) (by have h1 := HN.out; have h2 := HM4.out; omega) (by omega) ?_
      intro v7 w7 hown7 hchg7 hat7
      have hf6 : ∀ k, v6.ownBlock = some k → w4.heap.size ≤ k := fun k hk => by have := (hown6.lt hk).1; have := hHeld.size; omega
      have hS7 : Below w4.heap.size w4 w7 := hS6.trans (hchg7.below hS6.size fun i hi hs => by have := hf6 i hs; omega)
      refine hK.out _ _ hS7 (fun hHeld3 => ?_)
      clear hK K
      try simp only [Act.put, List.setIfInBounds_toArray, List.set_cons_zero, List.set_cons_succ]
      (refine wpAnyH_take (i := 17) (oi := { dst := some 9, op := _, type := _, pos := _, after := _, guard := _ }) (v := ?_) rfl (by kernel_rfl) (by kernel_rfl) (by kernel_rfl) (fun _ _ _ h => h) (Or.inl ⟨by kernel_rfl, (by intro W' hS'; obtain ⟨hq1, hq2⟩ := bcellL hS'; go_simp; try with_reducible rfl)⟩) (by assumption) ?_; (try simp only [Act.put, List.setIfInBounds_toArray, List.set_cons_zero, List.set_cons_succ]))
      refine wpAnyH_done (by kernel_rfl) ?_ _
      obtain ⟨A7, n7, c7, rfl, hn7, hle7, hmx7, _⟩ := hown7.form
      have HG7 := Lib.hid (HG.out.ext hS7)
      have HO7 := Lib.hid hown7
      have hn7' : Hid (n7 = _) := hn7
      clear hn7 hown7 hchg7 hat7 hown6 hb6 hf6 hS6 hS7 hHeld hHeld2 hHeld3 hS0 HG
      go_wp2_with (go_at_call 26; refine (hwh.out _ _ _ _ (HO7.out.sl encB_len) hn7'.out hle7).mono ?_; rintro e w8 ⟨hb8, A8, n8, c8, rs, rfl, hrs, hvo⟩; have HB8 := Lib.hid (ext_under HG7.out.be (Nat.le_refl _) hb8); clear hb8 hrs hvo)
      go_ret
      exact ⟨rfl, HB8.out⟩
    · have f1 : decide (0 < mo) = false := decide_eq_false hbig
      obtain ⟨p, hp1, hp2, hp3⟩ := short_p (s := [108]) (k := .row) (v := vL M) rfl (by simp [fitsK, vB, vL]) HG.out.rd.wf (by have h1 := HN.out; have h2 := HM4.out; simp [longV, vB, vL]; omega)
      have HP := Lib.hid (And.intro hp1 (And.intro hp2 hp3))
      have hput : Hid (∀ W g C r, At w W g C r → r.v = vL M → Calls Try.prog 18 #[.string ⟨#[108]⟩, .slice (some ⟨W.heap.size, 0, none⟩) 1 1] (W.alloc (.cells C 38)) (RetPut (W.alloc (.cells C 38)) (p, 0))) := by
        intro W g C r hA hv
        have h := put_any' ⟨#[108]⟩ [r] _ 1 1 _ (by decide) hA.lit
        rw [show putP (⟨#[108]⟩ : ByteArray).data.toList ([r].map Wr.v) = (p, 0) from by rw [List.map_cons, List.map_nil, hv]; exact hp1] at h
        exact h
      have hwh : Hid (∀ (A : Option Addr) (n cap : Nat) (W : World), BySl W W.heap.size A p → n = p.length → n ≤ cap → Calls Try.prog 26 #[.string ⟨#[108]⟩, .slice A n cap] W (RetWhole W ([vL M], 0))) := by
        intro A n cap W hl hn hc
        have h := whole_any ⟨#[108]⟩ p A n cap W (by decide) hl hn hc (by omega)
        rw [show wholeP (⟨#[108]⟩ : ByteArray).data.toList p = ([vL M], 0) from hp2] at h
        exact h
      clear hp1 hp2 hp3
      go_upto_region 9 with (go_at_call 18; refine (hput.out _ _ _ _ HG.out rfl).mono ?_; rintro e w4 ⟨hb4, A4, n4, c4, rfl, ho4, hf4⟩; have HG4 := Lib.hid (HG.out.ext ((below_1 _ _).trans (hb4.mono (by simp)))); have HO4 := Lib.hid ho4; obtain ⟨A0, n0', c0, hv0, hn4, hle4, hmx4, _⟩ := ho4.form; cases hv0; have HN4 := Lib.hid hn4; clear hb4 ho4 hf4 hn4 k0 k1 k2 k3 k4)
      have hn4 : Hid (n4 = p.length) := HO4.out.len
      have hn4b : n4 ≤ 300000 := by rw [hn4.out]; exact HP.out.2.2
      clear HG hput
      have HG := HG4
      clear HG4
      have k0 := HG.out.blk.cell 0; have k1 := HG.out.blk.cell 1; have k2 := HG.out.blk.cell 2; have k3 := HG.out.blk.cell 3; have k4 := HG.out.blk.cell 4; simp only [List.getElem?_toArray, List.getElem?_cons_zero, List.getElem?_cons_succ] at k0 k1 k2 k3 k4
      go_upto_region 14 with (go_at_call 26; refine (hwh.out _ _ _ _ (HO4.out.sl encB_len) hn4.out hle4).mono ?_; rintro e w5 ⟨hb5, A5, n5, c5, rs, rfl, hrs, hvo⟩; have HG5 := Lib.hid (HG.out.ext hb5); have HV5 := Lib.hid (And.intro hrs hvo); clear hb5 hrs hvo k0 k1 k2 k3 k4)
      clear HG hwh HO4
      have HG := HG5
      clear HG5
      have k0 := HG.out.blk.cell 0; have k1 := HG.out.blk.cell 1; have k2 := HG.out.blk.cell 2; have k3 := HG.out.blk.cell 3; have k4 := HG.out.blk.cell 4; simp only [List.getElem?_toArray, List.getElem?_cons_zero, List.getElem?_cons_succ] at k0 k1 k2 k3 k4
      go_wp2_with (go_at_call 22; refine (same_lit HG.out HV5.out.1 HV5.out.2).mono ?_; rintro e w6 ⟨rfl, hb6⟩)
      go_ret
      exact ⟨rfl, ext_under HG.out.be (Nat.le_refl _) ((below_1 _ _).trans (hb6.mono (by simp)))⟩
set_option maxRecDepth 100000 in
theorem lifted (os : Os) (started : os.Started) (H : Type) (enc : TypeId × Value → H) :
    ReturnsInHanded {} Try.checked os 5 .any (Rows.wireLongSpec.pre6 enc Try.prog Try.f5 Rows.wireLongRow.domain false) (Rows.wireLongSpec.post enc Try.prog Try.f5 false true false false) := by
  refine returnsInHanded_of_change_sized (C := Try.checked) own started (by kernel_rfl) Try.func5
    (ChangeSpec.witness6 (enc := enc) (C := Try.checked) false ⟨#[], #[.int .i64 0, .bool false], []⟩ 8 (by kernel_rfl) (by kernel_rfl) (by kernel_rfl) (by kernel_rfl)) ?_
  intro W base args ds gs before hval0 hW hcnd hsz0 _
  have hval : ∀ (j : Nat) t v, Try.f5.params[j]? = some t → args[j]? = some v → Value.okWide Try.prog W .any base t v := hval0
  have hW' := hW
  obtain ⟨p, q, hA0, hV, rfl, hfz, hnd⟩ := hW
  have hA : DataW.TrodAll enc Try.prog W 0 (fun _ => true) true Try.f5.params.toList args.toList ds p := hA0
  have hsz : (DataW.weightsEach Try.prog (Try.f5.params.toList ++ []) (ds ++ gs)).all (· ≤ reachBytes) = true := hsz0
  rw [Try.params5] at hA hval hsz
  have hAll := hA
  obtain ⟨v0, vs0, d0, ds0, p0, q0, hargs, rfl, rfl, h0, r0⟩ := trodAll_cons hA
  obtain ⟨v1, vs1, d1, ds1, p1, q1, rfl, rfl, rfl, h1, r1⟩ := trodAll_cons r0
  obtain ⟨rfl, rfl, rfl⟩ := trodAll_nil r1
  obtain rfl : args = #[v0, v1] := by cases args; simp_all
  obtain ⟨rfl, rfl⟩ := trodVars_none hV
  obtain ⟨m, rfl, _, _, m_wf⟩ := open_int Try.underlying3 (hval 0 3 v0 rfl rfl) h0
  obtain ⟨r, rfl, _, _⟩ := open_bool Try.underlying4 (hval 1 4 v1 rfl rfl) h1
  refine (walk m r W).mono fun e W' ⟨he, bel⟩ => ?_
  subst he
  exact ⟨_, rfl, _, _, _, [], _, [], hW', trodAll_mk1 (shut_bool Try.underlying4 _), keep_args laidOut bel (by kernel_rfl) hAll, rfl, bel.frame _, fun h => by cases h⟩

theorem over : Rows.wireLongRow.holds Try.pinned (OpenSpec.ofChange Rows.wireLongSpec) :=
  OpenClaim.holds_of_wide 5 Try.f5 rfl rfl rfl rfl rfl rfl rfl ⟨rfl, rfl, rfl, rfl, rfl⟩ rfl rfl rfl rfl rfl (by kernel_rfl) Try.func5 (by kernel_rfl)
    (of_decide_eq_true (by kernel_rfl)) (by unfold Func.isWrapper; first | (rw [if_pos (by decide +kernel)]; kernel_rfl) | (rw [if_neg (by decide +kernel)]; exact ⟨rfl, rfl⟩))
    (fun os started H enc _ => lifted os started H enc)

theorem proved : Rows.WireLongSaid := over
#print axioms proved
end Go.Proofs.Ytoneechcclndaaa.lawLong
