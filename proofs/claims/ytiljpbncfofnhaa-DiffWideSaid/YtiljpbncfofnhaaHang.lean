/- frag: hang, the iterator over a tree's fragments, as long as they are one. -/
import Derived.Test.YtiljpbncfofnhaaTree
import Derived.Test.YtiljpbncfofnhaaKeyMap
import Derived.OwnWalkIn
import Derived.TacticsInMore
import Derived.LoopNIn
import Derived.LoopIn
import Derived.Sort.LoopGhostIn
import Derived.Shelf.RegionOpen
import Derived.Outline
import Derived.BigQuiet
import Derived.Deep.QuietTactic
import Derived.Deep.RegionWith
import Derived.Deep.RegionHeld3
import Derived.Deep.DrawnRows
import Derived.Deep.LoopGhost
import Derived.Deep.DeepCutAuto
import Derived.Laws.EntriesVeiled
namespace Go.Proofs.Ytiljpbncfofnhaa.Hang
open Go.RowKit Go.ChangeShapes Go.WideShapes Go.ChangeAt
set_option linter.unusedVariables false
set_option linter.unusedSimpArgs false
attribute [local go_sem ↓] Go.wp_at_zero Go.wp_at_succ
attribute [local go_sem] Oper.semAt_some
open FragA FragB MayA Tree Go.Shelf

def encs (x : Int × Int) : Array Value := #[.int .i64 x.1, .int .i64 x.2]

theorem may_in {n : Nat} (f : Fr) (w : World) (ht : f.text.size ≤ 140737488355328) (b : Bool) (hb : mayB f = b) :
    CallsIn wide n Try.prog 75 #[f.agg] w fun e w' => e = .returned (.bool b) ∧ Below w.heap.size w w' := by
  subst hb
  exact callsIn_wide.2 (may_any f w ht)
theorem of_in {n : Nat} (f : Fr) (w : World) : CallsIn wide n Try.prog 106 #[f.agg] w fun e w' => e = .returned (.agg #[.int .i64 f.node, .int .i64 f.part]) ∧ Below w.heap.size w w' :=
  callsIn_wide.2 (of_any f w)

/-- what stands ahead of fragment j -/
def St (l : List Fr) (W : World) (l' : Nat) (S0 : Nat → Prop) (J : List (Int × Int) → World → Prop) (j : Nat) (v : Value) (seen : List (Int × Int)) (op : List Int) (wr : World) : Prop :=
  ∃ pre, hangs l = pre ++ hangL (l.drop j) j seen op ∧ Own wr W.heap.size 3 1 encI v op ∧ KeyMap wr W.heap.size seen ∧ J pre wr ∧
    Chg (fun k => S0 k ∨ k = l' ∨ W.heap.size ≤ k) W wr

theorem neq_of {d : Int} {j : Nat} (h : ¬ decide (d = 0) = decide (j = 0)) : ((d == 0) == ((j : Int) == 0)) = false := by
  have a2 : ((j : Int) == 0) = decide (j = 0) := by
    by_cases hj : j = 0
    · subst hj; rfl
    · rw [decide_eq_false hj]; simp [hj]
  rw [a2]
  exact beq_eq_false_iff_ne.2 h
theorem eq_of {d : Int} {j : Nat} (h : decide (d = 0) = decide (j = 0)) : ((d == 0) == ((j : Int) == 0)) = true := by
  have a2 : ((j : Int) == 0) = decide (j = 0) := by
    by_cases hj : j = 0
    · subst hj; rfl
    · rw [decide_eq_false hj]; simp [hj]
  rw [a2]
  exact beq_iff_eq.2 h

set_option maxRecDepth 100000 in
theorem run_slice_to (A : Option Addr) (n cap : Nat) (h : Int) (h0 : 0 ≤ h) (h1 : h ≤ (cap : Int)) (W : World) :
    (Instr.slice 122 (.slice A n cap) none (some (.int .i64 h)) none).run Try.prog W = .ok (.slice A h.toNat cap) W := by
  have hu := Try.underlying122
  obtain ⟨i, hi⟩ : ∃ i, Try.prog.info? 3 = some i := Option.isSome_iff_exists.1 (by kernel_rfl)
  unfold Instr.slice Instr.sliceBounds Instr.sliceBound
  simp only [Sem.run_bind, run_underlying hu, Result.andThen_ok, Sem.run_pure, asIntOf, if_pos (And.intro h0 h1), run_sizeOf _ hi]
  congr 2
  rcases A with _ | a
  · simp
  · simp only [Nat.zero_mul, Option.map_some, Addr.add, if_true]
    split <;> simp
attribute [local go_sem ↓] run_slice_to

theorem inInfo : (Try.prog.info? 3).map (fun i => (i.zero, i.size, i.bytes)) = some (some (.int .i64 0), 1, 8) := by kernel_rfl
theorem encI_len (b : Int) : (encI b).length = 1 := rfl
theorem encI_one (b : Int) : ∀ u ∈ encI b, u.oneCell' = true := by simp [encI, Value.oneCell']

/-- an owned slice, cut at its end -/
theorem own_cut {w : World} {base : Nat} {A : Option Addr} {n cap : Nat} {op : List Int} (h : Own w base 3 1 encI (.slice A n cap) op) {d : Nat} (hd : d ≤ op.length) : Own w base 3 1 encI (.slice A d cap) (op.take d) := by
  refine ⟨flat_length encI_len _, ?_⟩
  have hl : (op.take d).length = d := by simp; omega
  rcases h.2 with ⟨hv, hn⟩ | ⟨g, cap', cur, hv, hg, hh, hnc, hm, hcs, hx⟩
  · injection hv with h1 h2 h3
    subst h1; subst h2; subst h3
    left
    refine ⟨by rw [show d = 0 from by omega], by omega⟩
  · injection hv with h1 h2 h3
    subst h1; subst h3
    right
    refine ⟨g, cap, cur, by rw [hl], hg, hh, by omega, hm, hcs, ?_⟩
    rw [hl, Nat.mul_one]
    have hm' : ∀ (l : List Int), l.flatMap encI = l.map (Value.int .i64) := fun l => by
      induction l with
      | nil => rfl
      | cons a l ih => rw [List.flatMap_cons, ih]; rfl
    rw [hm', List.map_take, ← hm', ← hx, List.take_take]
    congr 1
    omega

theorem box_far {W wr w4 w5 : World} {o : Obj} {l' : Nat} {S0 : Nat → Prop} {J : List (Int × Int) → World → Prop} {A' : Option Addr} {n' cap' D : Nat} {seen : List (Int × Int)} {op : List Int} {pre : List (Int × Int)} {u : Value}
    (hg : (w4.alloc o).grownBy w5 (Value.slice A' D cap').ownBlock) (ho : Own w4 W.heap.size 3 1 encI (.slice A' n' cap') op) (hs4 : wr.heap.size + 1 ≤ w4.heap.size)
    (HH : Own wr W.heap.size 3 1 encI (.slice A' n' cap') op ∧ KeyMap wr W.heap.size seen ∧ J pre wr ∧ Chg (fun k => S0 k ∨ k = l' ∨ W.heap.size ≤ k) W wr)
    (h : w4.cell? ⟨wr.heap.size, 2, none⟩ = some u) : w5.cell? ⟨wr.heap.size, 2, none⟩ = some u := by
  have h1 : (w4.alloc o).cell? ⟨wr.heap.size, 2, none⟩ = some u := (World.cell?_alloc_lt w4 o ⟨wr.heap.size, 2, none⟩ (by simp; omega)).trans h
  refine hg.cell h1 (fun e => ?_)
  have hb : (Value.slice A' n' cap').ownBlock = some wr.heap.size := by
    cases A' with
    | none => simp [Value.ownBlock] at e
    | some a => simpa [Value.ownBlock, eq_comm] using e
  have := (HH.1.lt hb).2
  omega

theorem hang_step {f : Fr} {r : List Fr} {j : Nat} {seen : List (Int × Int)} {op : List Int} (h1 : mayB f = true) (h2 : (f.node, f.part) ∉ seen) (h3 : ¬ (op.length : Int) < f.depth) (h4 : decide (f.depth = 0) = decide (j = 0)) :
    hangL (f :: r) j seen op = ((j : Int), if 0 < f.depth then (op[(f.depth - 1).toNat]?).getD 0 else -1) :: hangL r (j + 1) (seen ++ [(f.node, f.part)]) (op.take f.depth.toNat ++ [(j : Int)]) := by
  rw [hangL, if_neg]
  rintro (h | h | h | h)
  · rw [h1] at h; cases h
  · exact h2 h
  · exact h3 h
  · exact h h4

theorem chg5 {W wr w4 w5 : World} {o : Obj} {A' : Option Addr} {n' cap' D : Nat} {op : List Int} (hc : Chg (fun k => W.heap.size = k) wr w4) (hg : (w4.alloc o).grownBy w5 (Value.slice A' D cap').ownBlock)
    (ho : Own wr W.heap.size 3 1 encI (.slice A' n' cap') op) (hW : W.heap.size ≤ wr.heap.size) : Chg (fun k => W.heap.size ≤ k) wr w5 := by
  refine ((hc.mono (T := fun k => W.heap.size ≤ k) (fun i _ h => by omega)).alloc o).trans (T := fun k => W.heap.size ≤ k) (Chg.of_grown hg (fun k hk _ => ?_)) (fun _ _ h => h)
  have hb : (Value.slice A' n' cap').ownBlock = some k := by
    cases A' with
    | none => simp [Value.ownBlock] at hk
    | some a => simpa [Value.ownBlock] using hk
  exact (ho.lt hb).1

theorem pre_of {X pre rest : List (Int × Int)} {x : Int × Int} (h : X = pre ++ (x :: rest)) : pre ++ [x] <+: X := ⟨rest, by rw [h]; simp⟩

theorem idx_of {op : List Int} {D : Nat} {x : Int} (h : D < op.length) : (op.take (D + 1) ++ [x])[D]? = some ((op[D]?).getD 0) := by
  rw [List.getElem?_append_left (by simp; omega), List.getElem?_take_of_lt (by omega), List.getElem?_eq_getElem h]
  rfl

theorem idx_lt {op : List Int} {D n2 : Nat} {x : Int} (hn : n2 = (op.take (D + 1) ++ [x]).length) (h : D < op.length) : (D : Int) < (n2 : Int) := by
  rw [hn]
  simp only [List.length_append, List.length_take, List.length_cons, List.length_nil]
  omega

theorem St.next {l : List Fr} {w W wr w4 w5 W' : World} {o : Obj} {l' j D n' cap' n2 cap2 : Nat} {S0 : Nat → Prop} {J : List (Int × Int) → World → Prop} {A' A2 : Option Addr} {seen : List (Int × Int)} {op op2 : List Int} {pre : List (Int × Int)} {x : Int × Int} {k : Int × Int}
    (hs : hangs l = pre ++ (x :: hangL (l.drop (j + 1)) (j + 1) (seen ++ [k]) op2))
    (HG : Own w5 W.heap.size 3 1 encI (.slice A2 n2 cap2) op2 ∧ (w4.alloc o).grownBy w5 (Value.slice A' D cap').ownBlock ∧ ((Value.slice A2 n2 cap2).ownBlock = (Value.slice A' D cap').ownBlock ∨ (Value.slice A2 n2 cap2).ownBlock = some (w4.alloc o).heap.size))
    (HH : Own wr W.heap.size 3 1 encI (.slice A' n' cap') op ∧ KeyMap wr W.heap.size seen ∧ J pre wr ∧ Chg (fun k => S0 k ∨ k = l' ∨ W.heap.size ≤ k) W wr) (hc4 : Chg (fun k => W.heap.size = k) wr w4)
    (hk4 : KeyMap w4 W.heap.size (seen ++ [k])) (hJ' : J (pre ++ [x]) W') (hk : Chg (fun k => S0 k ∨ k = l') w5 W') (hS0 : ∀ k, S0 k → k < w.heap.size) (hwW : w.heap.size ≤ W.heap.size) (hl2 : l' < W.heap.size) :
    St l W l' S0 J (j + 1) (.slice A2 n2 cap2) (seen ++ [k]) op2 W' := by
  have hno : ∀ i, W.heap.size ≤ i → ¬ (S0 i ∨ i = l') := fun i hi h => by
    rcases h with h | h
    · have := hS0 i h; omega
    · omega
  have h5 := chg5 hc4 HG.2.1 HH.1 HH.2.2.2.size
  refine ⟨pre ++ [x], by rw [hs]; simp, HG.1.chg hk (fun i hi => hno i (HG.1.lt hi).1), ?_, hJ', ?_⟩
  · have hlt := hk4.lt
    refine KeyMap.chg ?_ hk (hno _ (Nat.le_refl _))
    obtain ⟨es, ck, hm, he⟩ := hk4
    refine ⟨es, ck, ?_, he⟩
    rw [HG.2.1.block W.heap.size (by simp; omega) (fun e => ?_)]
    · exact (Below.heap_alloc w4 o _ hlt).trans hm
    · have hb : (Value.slice A' n' cap').ownBlock = some W.heap.size := by
        cases A' with
        | none => simp [Value.ownBlock] at e
        | some a => simpa [Value.ownBlock, eq_comm] using e
      obtain ⟨_, cur, _, hh, _⟩ := HH.1.row hb
      obtain ⟨es', ck', hm', _⟩ := HH.2.1
      rw [hh] at hm'; cases hm'
  · refine (HH.2.2.2.trans (h5.mono (T := fun k => S0 k ∨ k = l' ∨ W.heap.size ≤ k) (fun i _ h => .inr (.inr h))) (fun _ _ h => h)).trans (hk.mono (T := fun k => S0 k ∨ k = l' ∨ W.heap.size ≤ k) (fun i _ h => ?_)) (fun _ _ h => h)
    rcases h with h | h
    · exact .inl h
    · exact .inr (.inl h)

theorem fin_stop {l : List Fr} {W wr w' : World} {l' : Nat} {S0 : Nat → Prop} {J : List (Int × Int) → World → Prop} {v : Value} {seen : List (Int × Int)} {op : List Int} {pre r : List (Int × Int)}
    (hpre : hangs l = pre ++ r) (HH : Own wr W.heap.size 3 1 encI v op ∧ KeyMap wr W.heap.size seen ∧ J pre wr ∧ Chg (fun k => S0 k ∨ k = l' ∨ W.heap.size ≤ k) W wr) (hJ : Firm W.heap.size J) (hr : r = [])
    (hb : Below wr.heap.size wr w') : J (hangs l) w' := by
  subst hr
  rw [hpre, List.append_nil]
  exact hJ _ _ _ HH.2.2.1 (Chg.of_ext hb)

set_option maxRecDepth 100000 in
set_option maxHeartbeats 2000000 in
theorem hang_iter (n : Nat) (l : List Fr) (A : Option Addr) (cap bl : Nat) (w : World) (S0 : Nat → Prop) (hl : FrSl w w.heap.size A l) (h63 : l.length ≤ maxLen) (hw : FrsWf l)
    (hbl : w.cell? ⟨bl, 0, none⟩ = some (.slice A l.length cap)) (hSb : ¬ S0 bl) (hSA : l ≠ [] → ∀ k, blockOf A = some k → ¬ S0 k) (hS0 : ∀ k, S0 k → k < w.heap.size) :
    Iter n Try.prog 105 #[.pointer (some ⟨bl, 0, none⟩)] encs (hangs l) S0 w := by
  intro l' J Jx W hW hl1 hl2 hJ hJx hY h0
  unfold maxLen at h63
  have hbl' : W.cell? ⟨bl, 0, none⟩ = some (.slice A l.length cap) := (hW.cell (World.block_lt_of_cell? w _ hbl)).trans hbl
  have hblt := World.block_lt_of_cell? W _ hbl'
  have hbl2 : (W.alloc (.map #[] 0)).cell? ⟨bl, 0, none⟩ = some (.slice A l.length cap) := (World.cell?_alloc_lt W _ _ hblt).trans hbl'
  have hmm : ∀ (w : World), (Instr.makeMap 143 (some (.int .i64 (l.length : Int)))).run Try.prog w = .ok (.map (some w.heap.size)) (w.alloc (.map #[] 0)) := fun w => by
    simp [Instr.makeMap, run_underlying Try.underlying143]; rfl
  have HY := Lib.hid hY
  have HJ := Lib.hid hJ
  have H0 := Lib.hid h0
  clear hY hJ hJx h0
  refine callsIn_of_wp Try.func105 rfl trivial ?_ rfl
  simp only [Try.ntmps105, List.size_toArray, List.length_cons, List.length_nil, Nat.reduceAdd, Nat.reduceSub, Array.replicate_succ, Array.replicate_zero, List.push_toArray, List.append_toArray, List.nil_append, List.cons_append]
  gi_wp2
  have HS : Hid (St l W l' S0 J 0 (.slice none 0 0) [] [] (W.alloc (.map #[] 0))) :=
    ⟨[], by simp [hangs], Own.nil_ _ _ _ _ _, ⟨#[], 0, heap_alloc_new W _, rfl⟩, HJ.out _ _ _ H0.out ((Chg.refl _ _).alloc _), (Chg.refl _ _).alloc _⟩
  clear H0 hmm
  gi_loopg [4, 13] l.length (fun g vo vj wr => ∃ (j n' cap' : Nat) (A' : Option Addr) (seen : List (Int × Int)) (op : List Int), l.length ≤ j + g ∧ j ≤ l.length ∧ vj = .int .i64 j ∧ vo = .slice A' n' cap' ∧ n' ≤ cap' ∧ n' ≤ 9223372036854775807 ∧ Hid (n' = op.length) ∧ St l W l' S0 J j (.slice A' n' cap') seen op wr)
  case atStart => exact ⟨0, 0, 0, none, [], [], by omega, by omega, rfl, rfl, by omega, by omega, rfl, HS.out⟩
  case round =>
    obtain ⟨j, n', cap', A', seen, op, hg, hj, rfl, rfl, hnc, hnm, hno, pre, hpre, hop, hkm, hJp, hch⟩ := hrel
    have Hpre := Lib.hid hpre
    clear hpre
    by_cases hlt : j < l.length
    · have hx : l[j]? = some l[j] := List.getElem?_eq_getElem hlt
      have hfw := hw l[j] (List.getElem_mem hlt)
      have Hd := Lib.hid (List.drop_eq_getElem_cons hlt)
      obtain ⟨bb, off, rfl, hbb, c0, c1, c2, c3, c4, c5, c6, c7⟩ := FrSl.at_ hl hx
      have hold : ∀ (o : Nat) (u : Value), w.cell? ⟨bb, o, none⟩ = some u → wr.cell? ⟨bb, o, none⟩ = some u := fun o u h =>
        (hch.cell (p := ⟨bb, o, none⟩) (by have := hW.size; simp; omega) (by rintro (h1 | h1 | h1); exact hSA (by rintro rfl; simp at hlt) bb rfl h1; simp at h1; omega; have := hW.size; simp at h1; omega)).trans ((hW.cell (p := ⟨bb, o, none⟩) hbb).trans h)
      have d0 := hold _ _ c0
      have d1 := hold _ _ c1
      have d2 := hold _ _ c2
      have d3 := hold _ _ c3
      have d4 := hold _ _ c4
      have d5 := hold _ _ c5
      have d6 := hold _ _ c6
      have d7 := hold _ _ c7
      have hft := hfw.text
      clear c0 c1 c2 c3 c4 c5 c6 c7 hold hx hfw
      generalize l[j] = f at *
      have HH := Lib.hid (And.intro hop (And.intro hkm (And.intro hJp hch)))
      clear hop hkm hJp hch
      have b1 : (0 : Int) ≤ (j : Int) := Int.natCast_nonneg _
      have b2 : (j : Int) < (l.length : Int) := by omega
      have HB : Below wr.heap.size wr (wr.alloc (.cells #[.int .i64 f.node, .int .i64 f.part, .int .i64 f.depth, .int .i64 f.x, .int .i64 f.y, .int .i64 f.w, .int .i64 f.h, .string f.text] 67)) := (Below.refl _ _).alloc (Nat.le_refl _) _
      have hWr : W.heap.size ≤ wr.heap.size := HH.out.2.2.2.size
      cases hm : mayB f with
      | false =>
        have Hm := Lib.hid hm
        have Hc := fun w => Lib.hid (may_in (n := n - 1) f w hft false hm)
        unfold Fr.agg at Hc
        clear hm
        gi_wp2_with fail
        refine ⟨trivial, (fun h => by cases h), ?_⟩
        refine ((Hc _).out).mono ?_; rintro e w1 ⟨rfl, hb1⟩
        gi_wp2_with fail
        refine ⟨trivial, ?_⟩
        gi_wp2_with fail
        refine bodyPost_ret (results_none rfl _ _ _) rfl ?_
        exact ⟨⟨_, rfl⟩, .inl (fin_stop Hpre.out HH.out HJ.out (by rw [Hd.out, hangL, if_pos (.inl Hm.out)]) (ext_trans HB hb1))⟩
      | true =>
        have Hm := Lib.hid hm
        have Hc := fun w => Lib.hid (may_in (n := n - 1) f w hft true hm)
        unfold Fr.agg at Hc
        clear hm
        gi_wp2_with fail
        refine ⟨trivial, (fun h => by cases h), ?_⟩
        refine ((Hc _).out).mono ?_; rintro e w1 ⟨rfl, hb1⟩
        have box : ∀ (o : Nat) (u : Value), (wr.alloc (.cells #[.int .i64 f.node, .int .i64 f.part, .int .i64 f.depth, .int .i64 f.x, .int .i64 f.y, .int .i64 f.w, .int .i64 f.h, .string f.text] 67)).cell? ⟨wr.heap.size, o, none⟩ = some u → w1.cell? ⟨wr.heap.size, o, none⟩ = some u := fun o u h => (hb1.cell (p := ⟨wr.heap.size, o, none⟩) (by simp)).trans h
        have e0 := box 0 (.int .i64 f.node) (by go_simp)
        have e1 := box 1 (.int .i64 f.part) (by go_simp)
        have e2 := box 2 (.int .i64 f.depth) (by go_simp)
        have e3 := box 3 (.int .i64 f.x) (by go_simp)
        have e4 := box 4 (.int .i64 f.y) (by go_simp)
        have e5 := box 5 (.int .i64 f.w) (by go_simp)
        have e6 := box 6 (.int .i64 f.h) (by go_simp)
        have e7 := box 7 (.string f.text) (by go_simp)
        have hs1 : wr.heap.size + 1 ≤ w1.heap.size := by have := hb1.size; simpa using this
        have HB1 := Lib.hid (ext_trans HB hb1)
        have Hof := fun w => Lib.hid (of_in (n := n - 1) f w)
        unfold Fr.agg at Hof
        clear hb1 HB box Hc d0 d1 d2 d3 d4 d5 d6 d7
        gi_wp2_with fail
        refine ⟨trivial, (fun h => by cases h), ?_⟩
        refine ((Hof _).out).mono ?_; rintro e w2 ⟨rfl, hb2⟩
        have km2 : KeyMap w2 W.heap.size seen := (HH.out.2.1.chg (Chg.of_ext (S := fun _ => False) HB1.out) (fun h => h)).chg (Chg.of_ext (S := fun _ => False) hb2) (fun h => h)
        have box : ∀ (o : Nat) (u : Value), w1.cell? ⟨wr.heap.size, o, none⟩ = some u → w2.cell? ⟨wr.heap.size, o, none⟩ = some u := fun o u h => (hb2.cell (p := ⟨wr.heap.size, o, none⟩) (by simp; omega)).trans h
        have x0 := box 0 (.int .i64 f.node) e0
        have x1 := box 1 (.int .i64 f.part) e1
        have x2 := box 2 (.int .i64 f.depth) e2
        have x3 := box 3 (.int .i64 f.x) e3
        have x4 := box 4 (.int .i64 f.y) e4
        have x5 := box 5 (.int .i64 f.w) e5
        have x6 := box 6 (.int .i64 f.h) e6
        have x7 := box 7 (.string f.text) e7
        have hs2 : wr.heap.size + 1 ≤ w2.heap.size := Nat.le_trans hs1 hb2.size
        have HB2 := Lib.hid (ext_trans HB1.out hb2)
        have hlk := run_lookup_key w2 km2 f.node f.part
        have Hkm2 := Lib.hid km2
        clear hb2 box e0 e1 e2 e3 e4 e5 e6 e7 km2
        by_cases hk : (f.node, f.part) ∈ seen
        · rw [if_pos hk] at hlk
          have Hk := Lib.hid hk
          clear hk
          gi_wp2_with fail
          refine bodyPost_ret (results_none rfl _ _ _) rfl ?_
          exact ⟨⟨_, rfl⟩, .inl (fin_stop Hpre.out HH.out HJ.out (by rw [Hd.out, hangL, if_pos (.inr (.inl Hk.out))]) HB2.out)⟩
        · rw [if_neg hk] at hlk
          have Hk := Lib.hid hk
          clear hk
          have hdp := may_depth Hm.out
          obtain ⟨hd1, hd2⟩ := hdp
          by_cases hdl : (n' : Int) < f.depth
          · gi_wp2_with fail
            refine bodyPost_ret (results_none rfl _ _ _) rfl ?_
            exact ⟨⟨_, rfl⟩, .inl (fin_stop Hpre.out HH.out HJ.out (by rw [Hd.out, hangL, if_pos (.inr (.inr (.inl (by rw [← hno.out]; exact hdl))))]) HB2.out)⟩
          · by_cases hz : decide (f.depth = 0) = decide (j = 0)
            · have hz2 := eq_of hz
              have Hz := Lib.hid hz
              clear hz
              gi_wp2_with fail
              refine ⟨trivial, (fun h => by cases h), ?_⟩
              refine ((Hof _).out).mono ?_; rintro e w3 ⟨rfl, hb3⟩
              obtain ⟨w4, hst, km4, hc4⟩ := run_store_key w3 (Hkm2.out.chg (Chg.of_ext (S := fun _ => False) hb3) (fun h => h)) f.node f.part Hk.out
              have hne : wr.heap.size ≠ W.heap.size := by have := HH.out.2.1.lt; omega
              have y2 : w4.cell? ⟨wr.heap.size, 2, none⟩ = some (.int .i64 f.depth) := (hc4.cell (p := ⟨wr.heap.size, 2, none⟩) (by have := hb3.size; simp; omega) (fun h => hne h)).trans ((hb3.cell (p := ⟨wr.heap.size, 2, none⟩) (by simp; omega)).trans x2)
              have hs4 : wr.heap.size + 1 ≤ w4.heap.size := by have := hb3.size; have := hc4.size; omega
              have HC4 : Hid (Chg (fun k => W.heap.size = k) wr w4) := ((Chg.of_ext (ext_trans HB2.out hb3)).trans (T := fun k => W.heap.size = k) (hc4.mono (fun i _ h => h.symm)) (fun i _ h => h))
              have HK4 := Lib.hid km4
              clear x0 x1 x2 x3 x4 x5 x6 x7 hb3 hc4 km4 hlk Hof Hkm2
              obtain ⟨D, hD⟩ : ∃ D : Nat, f.depth = (D : Int) := ⟨f.depth.toNat, by omega⟩
              have hDn : D ≤ n' := by omega
              have hDc : (D : Int) ≤ (cap' : Int) := by omega
              have HD := Lib.hid hD
              obtain ⟨i0, hi, hz0, hz1, hz3⟩ := info_parts inInfo
              have own4 : Own w4 W.heap.size 3 1 encI (.slice A' n' cap') op := HH.out.1.chg HC4.out (fun k hk h => by
                subst h
                obtain ⟨_, cur, _, hh, _⟩ := HH.out.1.row hk
                obtain ⟨es, ck, hm4, _⟩ := HH.out.2.1
                rw [hh] at hm4; cases hm4)
              have own4' := (own_cut own4 (d := D) (by rw [← hno.out]; exact hDn)).alloc (.cells #[.int .i64 (j : Int)] 3)
              have hlit : InSl (w4.alloc (.cells #[.int .i64 (j : Int)] 3)) (w4.alloc (.cells #[.int .i64 (j : Int)] 3)).heap.size (some ⟨w4.heap.size, 0, none⟩) [(j : Int)] := lit_sl w4 [(j : Int)] 3
              have hlen : (op.take D).length + [(j : Int)].length ≤ maxLen := by
                have h1 : (op.take D).length ≤ D := List.length_take_le _ _
                simp only [List.length_cons, List.length_nil]; unfold maxLen; omega
              have hbyt : ((op.take D).length + [(j : Int)].length) * 8 ≤ 140737488355328 := by
                have h1 : (op.take D).length ≤ D := List.length_take_le _ _
                simp only [List.length_cons, List.length_nil]; omega
              have HA := Lib.hid (And.intro own4' (And.intro hlit (And.intro hlen (And.intro hbyt own4))))
              clear own4 own4' hlit hlen hbyt
              have HSt : Hid (hangs l = pre ++ (((j : Int), if 0 < f.depth then (op[(f.depth - 1).toNat]?).getD 0 else -1) :: hangL (l.drop (j + 1)) (j + 1) (seen ++ [(f.node, f.part)]) (op.take D ++ [(j : Int)]))) := by
                rw [Hid, Hpre.out, Hd.out, hang_step Hm.out Hk.out (by rw [← hno.out]; omega) Hz.out, HD.out]; rfl
              rcases D with _ | D
              · have HS1 : Hid (hangs l = pre ++ (((j : Int), -1) :: hangL (l.drop (j + 1)) (j + 1) (seen ++ [(f.node, f.part)]) (op.take 0 ++ [(j : Int)]))) := by
                  rw [Hid, HSt.out, if_neg (by rw [HD.out]; simp)]
                gi_wp2_with (gi_at_builtin; refine wpListIn_append_sl _ rfl _ _ _ rfl W.heap.size 3 i0 _ 1 8 Try.underlying122 hi hz0 hz1 hz3 rfl (by decide) encI_len encI_one (.slice A' 0 cap') (op.take 0) (by rfl) HA.out.1 _ (some ⟨w4.heap.size, 0, none⟩) [(j : Int)] 1 1 (by rfl) rfl HA.out.2.1 HA.out.2.2.1 HA.out.2.2.2.1 (by simp; omega) ?_; intro v2 w5 hown5 hgrow5 hat5; obtain ⟨A2, n2, cap2, rfl, hn2, hle2, hmx2⟩ := hown5.form; have y5 : w5.cell? ⟨wr.heap.size, 2, none⟩ = some (.int .i64 f.depth) := box_far hgrow5 HA.out.2.2.2.2 hs4 HH.out y2; have HG := Lib.hid (And.intro hown5 (And.intro hgrow5 hat5)); clear hown5 hgrow5 hat5; obtain ⟨fn5, tm5, as5, bd5, hy5, hR5⟩ := HY.out pre ((j : Int), -1) w5 (HJ.out _ _ _ HH.out.2.2.1 (chg5 HC4.out HG.out.2.1 HH.out.1 hWr)) (pre_of HS1.out) (Nat.le_trans hWr (chg5 HC4.out HG.out.2.1 HH.out.1 hWr).size); simp only [encs] at hy5)
                refine ⟨(fun h => by cases h), hR5.mono ?_⟩
                rintro e W' (⟨rfl, hJ', hk⟩ | ⟨rfl, hJx'⟩)
                · have HF := Lib.hid (St.next HS1.out HG.out HH.out HC4.out HK4.out hJ' hk hS0 hW.size hl2)
                  clear hJ' hk
                  gi_wp2
                  gi_roundg (gk - 1)
                  case measure => omega
                  case rel => exact ⟨j + 1, n2, cap2, _, seen ++ [(f.node, f.part)], op.take 0 ++ [(j : Int)], by omega, by omega, by go_num, rfl, hle2, by unfold maxLen at hmx2; omega, hn2, HF.out⟩
                · gi_wp2
                  refine bodyPost_ret (results_none rfl _ _ _) rfl ?_
                  exact ⟨⟨_, rfl⟩, .inr ⟨_, hJx'⟩⟩
              · have HS1 : Hid (hangs l = pre ++ (((j : Int), (op[D]?).getD 0) :: hangL (l.drop (j + 1)) (j + 1) (seen ++ [(f.node, f.part)]) (op.take (D + 1) ++ [(j : Int)]))) := by
                  rw [Hid, HSt.out, if_pos (by rw [HD.out]; omega), show (f.depth - 1).toNat = D from by rw [HD.out]; omega]
                gi_wp2_with (gi_at_builtin; refine wpListIn_append_sl _ rfl _ _ _ rfl W.heap.size 3 i0 _ 1 8 Try.underlying122 hi hz0 hz1 hz3 rfl (by decide) encI_len encI_one (.slice A' (D + 1) cap') (op.take (D + 1)) (by rfl) HA.out.1 _ (some ⟨w4.heap.size, 0, none⟩) [(j : Int)] 1 1 (by rfl) rfl HA.out.2.1 HA.out.2.2.1 HA.out.2.2.2.1 (by simp; omega) ?_; intro v2 w5 hown5 hgrow5 hat5; obtain ⟨A2, n2, cap2, rfl, hn2, hle2, hmx2⟩ := hown5.form; have y5 : w5.cell? ⟨wr.heap.size, 2, none⟩ = some (.int .i64 f.depth) := box_far hgrow5 HA.out.2.2.2.2 hs4 HH.out y2; have HG := Lib.hid (And.intro hown5 (And.intro hgrow5 hat5)); obtain ⟨g2, o2, rfl, hg2, z5⟩ := InSl.at_ (hown5.sls encI_len) (k := D) (b := (op[D]?).getD 0) (idx_of (by rw [← hno.out]; omega)); have hlt2 : (D : Int) < (n2 : Int) := idx_lt hn2.out (by rw [← hno.out]; omega); have hge2 : (0 : Int) ≤ (D : Int) := Int.natCast_nonneg _; clear hown5 hgrow5 hat5; obtain ⟨fn5, tm5, as5, bd5, hy5, hR5⟩ := HY.out pre ((j : Int), (op[D]?).getD 0) w5 (HJ.out _ _ _ HH.out.2.2.1 (chg5 HC4.out HG.out.2.1 HH.out.1 hWr)) (pre_of HS1.out) (Nat.le_trans hWr (chg5 HC4.out HG.out.2.1 HH.out.1 hWr).size); simp only [encs] at hy5)
                refine ⟨(fun h => by cases h), hR5.mono ?_⟩
                rintro e W' (⟨rfl, hJ', hk⟩ | ⟨rfl, hJx'⟩)
                · have HF := Lib.hid (St.next HS1.out HG.out HH.out HC4.out HK4.out hJ' hk hS0 hW.size hl2)
                  clear hJ' hk
                  gi_wp2
                  gi_roundg (gk - 1)
                  case measure => omega
                  case rel => exact ⟨j + 1, n2, cap2, _, seen ++ [(f.node, f.part)], op.take (D + 1) ++ [(j : Int)], by omega, by omega, by go_num, rfl, hle2, by unfold maxLen at hmx2; omega, hn2, HF.out⟩
                · gi_wp2
                  refine bodyPost_ret (results_none rfl _ _ _) rfl ?_
                  exact ⟨⟨_, rfl⟩, .inr ⟨_, hJx'⟩⟩
            · have hz2 := neq_of hz
              have Hz := Lib.hid hz
              clear hz
              gi_wp2_with fail
              refine bodyPost_ret (results_none rfl _ _ _) rfl ?_
              exact ⟨⟨_, rfl⟩, .inl (fin_stop Hpre.out HH.out HJ.out (by rw [Hd.out, hangL, if_pos (.inr (.inr (.inr Hz.out)))]) HB2.out)⟩
    · gi_wp2
      go_end0
      exact ⟨⟨_, rfl⟩, .inl (fin_stop Hpre.out ⟨hop, hkm, hJp, hch⟩ HJ.out (by rw [List.drop_of_length_le (by omega)]; rfl) (Below.refl _ _))⟩
end Go.Proofs.Ytiljpbncfofnhaa.Hang
