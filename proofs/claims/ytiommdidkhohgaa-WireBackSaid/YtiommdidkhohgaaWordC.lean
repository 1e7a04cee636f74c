/- words: Put of the program. -/
import Derived.Test.YtiommdidkhohgaaWordB
import Derived.Outline
import Derived.BigQuiet
import Derived.Deep.QuietTactic
import Derived.Deep.RegionWith
import Derived.Deep.RegionHeld3
import Derived.Deep.DrawnRows
import Derived.Deep.LoopGhost
import Derived.Deep.DeepCutAuto
import Derived.Laws.EntriesVeiled
namespace Go.Proofs.Ytiommdidkhohgaa.Word
open Go.RowKit Go.ChangeShapes Go.WideShapes Go.ChangeAt
set_option linter.unusedVariables false
set_option linter.unusedSimpArgs false
attribute [local go_sem ↓] Go.wp_at_zero Go.wp_at_succ
attribute [local go_sem] Oper.semAt_some
open Go.Shelf

theorem lit_by (w : World) (d : UInt8) (t : TypeId) : BySl (w.alloc (.cells #[.int .u8 (d.toNat : Int)] t)) (w.alloc (.cells #[.int .u8 (d.toNat : Int)] t)).heap.size (some ⟨w.heap.size, 0, none⟩) [d] := by
  intro _
  refine ⟨w.heap.size, 0, rfl, by simp, fun k x hx j v hv => ?_⟩
  have hj : j = 0 := by
    rcases j with _ | j
    · rfl
    · simp [encB] at hv
  have hk : k = 0 := by
    rcases k with _ | k
    · rfl
    · simp at hx
  subst hj
  subst hk
  simp only [encB, List.getElem?_cons_zero, Option.some.injEq] at hv hx
  subst hv
  subst hx
  rw [(Blk.new w t _).cell]
  rfl

/-- what the rounds of Put keep -/
def PutI (w : World) (pre : List (UInt8 × Bool)) (W : World) : Prop :=
  ∃ v, Blk W w.heap.size 22 #[v] ∧ Own W (w.heap.size + 4) 5 1 encB v (pre.map dbyte) ∧ Below w.heap.size w W

theorem PutI.chg {w W W' : World} {S : Nat → Prop} {pre : List (UInt8 × Bool)} (h : PutI w pre W) (hc : Chg S W W') (hn : ∀ k, S k → w.heap.size < k ∧ k < w.heap.size + 4) : PutI w pre W' := by
  obtain ⟨v, hb, ho, hB⟩ := h
  exact ⟨v, hb.chg hc (fun h => by have := hn _ h; omega), ho.chg hc (fun g hg h => by have := hn _ h; have := (ho.lt hg).1; omega),
    hB.trans (hc.below hB.size (fun i hi h => by have := hn _ h; omega))⟩

theorem PutI.box {w W w' : World} {xs : List UInt8} {v : Value} {o : Obj}
    (HH : Blk W w.heap.size 22 #[v] ∧ Own W (w.heap.size + 4) 5 1 encB v xs ∧ Below w.heap.size w W) (hg : (W.alloc o).grownBy w' v.ownBlock) : Blk w' w.heap.size 22 #[v] :=
  HH.1.chg (((Chg.refl (fun k => v.ownBlock = some k) W).alloc o).trans (Chg.of_grown hg (fun k hk _ => hk)) (fun _ _ h => h)) (fun h => by have := (HH.2.1.lt h).1; omega)

theorem PutI.round {a : Act} {w W w' : World} {pre : List (UInt8 × Bool)} {x : UInt8 × Bool} {v v' : Value} {o : Obj} (hs : w.heap.size + 4 ≤ W.heap.size)
    (HH : Blk W w.heap.size 22 #[v] ∧ Own W (w.heap.size + 4) 5 1 encB v (pre.map dbyte) ∧ Below w.heap.size w W)
    (ho : Own w' (w.heap.size + 4) 5 1 encB v' (pre.map dbyte ++ [dbyte x])) (hg : (W.alloc o).grownBy w' v.ownBlock) :
    roundEndT (fun k => ¬ k = w.heap.size + 1 ∧ k ≠ w.heap.size + 2 ∧ k ≠ w.heap.size + 2 + 1) (PutI w) (fun _ _ _ => False) (pre ++ [x]) W .normal a (w'.setCell ⟨w.heap.size, 0, none⟩ v') := by
  have hc : Chg (fun k => v.ownBlock = some k) W w' := ((Chg.refl (fun k => v.ownBlock = some k) W).alloc o).trans (Chg.of_grown hg (fun k hk _ => hk)) (fun _ _ h => h)
  have hne : ¬ v.ownBlock = some w.heap.size := fun h => by have := (HH.2.1.lt h).1; omega
  have hb := HH.1.chg hc hne
  refine ⟨(hc.mono (T := fun k => ¬ k = w.heap.size + 1 ∧ k ≠ w.heap.size + 2 ∧ k ≠ w.heap.size + 2 + 1) (fun k _ hk => ?_)).setCell (p := ⟨w.heap.size, 0, none⟩) (fun _ => by refine ⟨?_, ?_, ?_⟩ <;> simp <;> omega) _, v', hb.set_ 0 _, ?_, ?_⟩
  · have := (HH.2.1.lt hk).1
    omega
  · rw [List.map_append]
    exact ho.chg ((Chg.refl (fun k => k = w.heap.size) w').setCell (p := ⟨w.heap.size, 0, none⟩) (fun _ => rfl) _) (fun g hg h => by have := (ho.lt hg).1; omega)
  · exact (HH.2.2.trans (hc.below HH.2.2.size (fun i hi h => by have := (HH.2.1.lt h).1; omega))).setCell (Nat.le_refl _) _

set_option maxRecDepth 100000 in
theorem put_any (n : Nat) (hn : n < p64) (w : World) : Calls Try.prog 68 #[.int .u64 (n : Int)] w (RetOwn w 5 1 encB (putW n)) := by
  refine (callsIn_wide (n := 3)).1 ?_
  refine callsIn_of_wp_marks Try.func68 rfl trivial ?_ rfl
  simp only [Try.ntmps68, List.size_toArray, List.length_cons, List.length_nil, Nat.reduceAdd, Nat.reduceSub, Array.replicate_succ, Array.replicate_zero, List.push_toArray, List.append_toArray, List.nil_append, List.cons_append]
  gi_wp2_with fail
  refine ⟨trivial, ?_⟩
  refine (callsIn_wide.2 (digits_any _ _)).mono ?_; rintro e w' ⟨rfl, rfl⟩
  gi_wp2_with fail
  have hB0 : Below w.heap.size w ((w.alloc (.cells #[.slice none 0 0] 22)).alloc (.cells #[.int .u64 (n : Int)] 31)) := ((Below.refl _ _).alloc (Nat.le_refl _) _).alloc (by simp) _
  have hsz : ((w.alloc (.cells #[.slice none 0 0] 22)).alloc (.cells #[.int .u64 (n : Int)] 31)).heap.size = w.heap.size + 2 := by simp
  have hb0 : Blk ((w.alloc (.cells #[.slice none 0 0] 22)).alloc (.cells #[.int .u64 (n : Int)] 31)) w.heap.size 22 #[.slice none 0 0] := (Blk.new _ _ _).alloc _
  have hb1 : Blk ((w.alloc (.cells #[.slice none 0 0] 22)).alloc (.cells #[.int .u64 (n : Int)] 31)) (w.heap.size + 1) 31 #[.int .u64 (n : Int)] := by
    have := Blk.new (w.alloc (.cells #[.slice none 0 0] 22)) 31 #[.int .u64 (n : Int)]
    rwa [World.size_alloc] at this
  generalize ((w.alloc (.cells #[.slice none 0 0] 22)).alloc (.cells #[.int .u64 (n : Int)] 31)) = w0 at *
  have hit := digits_iter (3 - 1) n hn (w.heap.size + 1) w0 hb1
  obtain ⟨i0, hi, hz0, hz1, hz3⟩ := info_parts byInfo
  have HN := Lib.hid hn
  clear hn
  refine wpIn_rangeT (n := 3) (gf := 87) (lb := #[.pointer (some ⟨w.heap.size + 1, 0, none⟩)]) rfl (enters_of Try.func87 (by kernel_rfl) rfl) (encs := encD) (fun _ => rfl) (digF 10 n) (fun k => k = w.heap.size + 1) (fun k => k = w.heap.size + 1) (fun k h => by omega) (fun k h => by omega) hit
    (PutI w) (fun _ _ _ => False) (fun s X Y h hc => h.chg hc (fun k hk => by omega)) (fun c s X Y h hc => h.elim) ⟨_, hb0, Own.nil_ _ _ _ _ _, hB0⟩
    (fun x => { tmps := #[.int .u64 (n : Int), undef, .slice none 0 0, .pointer (some ⟨w.heap.size, 0, none⟩), .int .u8 (x.1.toNat : Int), .bool x.2, .int .u64 (n : Int), .func (.func 87) #[] #[.pointer (some ⟨w.heap.size + 1, 0, none⟩)], .int .u8 (x.1.toNat : Int), .bool x.2, undef, undef, undef, undef, undef, undef, undef, undef, undef], defers := [] }) ?assign ?body ?done ?stop
  case assign =>
    intro l x W K hK
    have e : ∀ (T : Array Value), ((#[8, 9] : Array Tmp).zip (encD x)).foldl (fun t (y : Tmp × Value) => t.setIfInBounds y.1 y.2) T = (T.setIfInBounds 8 (.int .u8 (x.1.toNat : Int))).setIfInBounds 9 (.bool x.2) := fun T => by simp [encD]
    rw [e]
    gi_wp2
    exact hK
  case body =>
    rintro l' pre x W ⟨v, hb, ho, hB⟩ hpre hsz'
    rw [hsz] at hsz' ⊢
    obtain ⟨A1, n1, cap1, rfl, hn1, hle1, hmx1⟩ := ho.form
    have c0 : W.cell? ⟨w.heap.size, 0, none⟩ = some (.slice A1 n1 cap1) := hb.cell 0
    have f0 := hb.free 0
    have hxm : x ∈ digF 10 n := hpre.subset (by simp)
    have hx := dig_lt 10 n x hxm
    have hpl : pre.length + 1 ≤ 10 := by
      have h1 := hpre.length_le
      have h2 : (digF 10 n).length ≤ 10 := by
        have := putW_len (p64_lt HN.out)
        unfold putW at this
        rw [← dig_put, List.length_map] at this
        exact this
      simp at h1; omega
    have HH := Lib.hid (And.intro hb (And.intro ho hB))
    have HP : Hid (pre.length + 1 ≤ 10) := hpl
    clear hb ho hB hpre hxm hpl
    obtain ⟨xb, xl⟩ := x
    have HL1 : Hid ((pre.map dbyte).length + [dbyte (xb, xl)].length ≤ maxLen) := by
      have := HP.out
      unfold Hid maxLen; simp; omega
    have HL2 : Hid (((pre.map dbyte).length + [dbyte (xb, xl)].length) * 1 ≤ 140737488355328) := by
      have := HP.out
      unfold Hid; simp; omega
    cases xl with
    | true =>
      gi_wp2_with (gi_at_builtin; refine wpListIn_append_sl _ rfl _ _ _ rfl (w.heap.size + 4) 5 i0 _ 1 1 Try.underlying22 hi hz0 hz1 hz3 rfl (by decide) encB_len encB_one (.slice A1 n1 cap1) (pre.map dbyte) (by rfl) (HH.out.2.1.alloc _) _ (some ⟨W.heap.size, 0, none⟩) [dbyte (xb, true)] 1 1 (by rfl) rfl (lit_by W _ 5) HL1.out HL2.out (by simp; omega) ?_; intro v2 w5 hown5 hgrow5 hat5; obtain ⟨A2, n2, cap2, rfl, hn2, hle2, hmx2⟩ := hown5.form; have b5 := PutI.box HH.out hgrow5; have y5 : w5.cell? ⟨w.heap.size, 0, none⟩ = some (.slice A1 n1 cap1) := b5.cell 0; have f5 := b5.free 0; have HG := Lib.hid (And.intro hown5 hgrow5); clear hown5 hgrow5 hat5 b5)
      exact PutI.round hsz' HH.out HG.out.1 HG.out.2
    | false =>
      have e1 : bits .or .u8 (xb.toNat : Int) 128 = ((dbyte (xb, false)).toNat : Int) := or128 xb hx
      gi_wp2_with (gi_at_builtin; refine wpListIn_append_sl _ rfl _ _ _ rfl (w.heap.size + 4) 5 i0 _ 1 1 Try.underlying22 hi hz0 hz1 hz3 rfl (by decide) encB_len encB_one (.slice A1 n1 cap1) (pre.map dbyte) (by rfl) (HH.out.2.1.alloc _) _ (some ⟨W.heap.size, 0, none⟩) [dbyte (xb, false)] 1 1 (by rfl) rfl (lit_by W _ 5) HL1.out HL2.out (by simp; omega) ?_; intro v2 w5 hown5 hgrow5 hat5; obtain ⟨A2, n2, cap2, rfl, hn2, hle2, hmx2⟩ := hown5.form; have b5 := PutI.box HH.out hgrow5; have y5 : w5.cell? ⟨w.heap.size, 0, none⟩ = some (.slice A1 n1 cap1) := b5.cell 0; have f5 := b5.free 0; have HG := Lib.hid (And.intro hown5 hgrow5); clear hown5 hgrow5 hat5 b5)
      exact PutI.round hsz' HH.out HG.out.1 HG.out.2
  case done =>
    rintro W ⟨v, hb, ho, hB⟩ hK
    have c0 : W.cell? ⟨w.heap.size, 0, none⟩ = some v := hb.cell 0
    have hP : PutI w (digF 10 n) W := ⟨v, hb, ho, hB⟩
    gi_wp2
    refine ⟨by simp, .inl ⟨_, _, rfl, run_takeDeferred hK, ?_⟩⟩
    have hc : Chg (fun k => k = w0.heap.size) W (W.putObj w0.heap.size (.deferred none)) := (Chg.refl (fun k => k = w0.heap.size) W).putObj (fun _ => rfl) _
    refine ⟨_, results_tmp (t := 2) rfl _ _ _, v, rfl, ?_, ?_⟩
    · have h := (ho.chg hc (fun g hg h => by have := (ho.lt hg).1; omega)).mono (base' := w.heap.size) (by omega)
      rw [dig_put] at h
      exact h
    · exact hB.trans (hc.below hB.size (fun i hi h => by omega))
  case stop =>
    rintro c pre W h _
    exact h.elim
end Go.Proofs.Ytiommdidkhohgaa.Word
