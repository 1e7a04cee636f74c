/- chunk: Split of the program. -/
import Derived.Test.YtiljpbncfofnhaaScB
import Derived.Test.YtiljpbncfofnhaaClone
import Derived.Outline
import Derived.BigQuiet
import Derived.Deep.QuietTactic
import Derived.Deep.RegionWith
import Derived.Deep.RegionHeld3
import Derived.Deep.DrawnRows
import Derived.Deep.LoopGhost
import Derived.Deep.DeepCutAuto
import Derived.Laws.EntriesVeiled
namespace Go.Proofs.Ytiljpbncfofnhaa.Split
open Go.RowKit Go.ChangeShapes Go.WideShapes Go.ChangeAt
set_option linter.unusedVariables false
set_option linter.unusedSimpArgs false
attribute [local go_sem ↓] Go.wp_at_zero Go.wp_at_succ
attribute [local go_sem] Oper.semAt_some
open Go.Shelf Send Go.Proofs.Ytiljpbncfofnhaa.Comes

/-- an append in a region inside a fence, where it comes up -/
theorem stepIn_append_sl {α : Type} {enc : α → List Value} {F : Fence} {n : Nat} {P : Program} (w : World) {ops : Array Oper} {o : Oper} {a : Act} {K : Act → World → Prop} {Q : Exit → Act → World → Prop} {E : Prop}
    (hgd : o.guard = none) (s x : Operand) (t : TypeId) (ho : o.op = .call { callee := .builtin .append, args := #[s, x], argTypes := #[t, t] })
    (base : Nat) (e : TypeId) (i : TypeInfo) (z : Value) (size bytes : Nat) (ht : P.underlying t = some (.slice e)) (hi : P.info? e = some i) (hz : i.zero = some z)
    (hsize : i.size = size) (hby : i.bytes = bytes) (hzs : z.cells.size = size) (hsz : 0 < size) (he : ∀ x, (enc x).length = size) (h1 : ∀ x, ∀ u ∈ enc x, u.oneCell' = true)
    (v : Value) (l : List α) (hs : a.eval s = v) (hown : Own w base e size enc v l) (B : Nat) (A : Option Addr) (m : List α) (k c : Nat) (hx : a.eval x = .slice A k c) (hn : k = m.length) (hr : Sl w B size enc A m)
    (h63 : l.length + m.length ≤ maxLen) (hbytes : (l.length + m.length) * bytes ≤ 140737488355328) (hbase : base ≤ w.heap.size)
    (h : ∀ v' w', Own w' base e size enc v' (l ++ m) → w.grownBy w' v.ownBlock → (v'.ownBlock = v.ownBlock ∨ v'.ownBlock = some w.heap.size) → K (a.put o.dst v') w') :
    if Region.wanted o (yielded ops a.tmps) = true then Oper.wpIn F n P o a w K Q else E := by
  have hw : Region.wanted o (yielded ops a.tmps) = true := by simp [Region.wanted, hgd]
  rw [if_pos hw]
  subst hn
  obtain ⟨v', w', hrun, h2, h3, h4⟩ := run_append_sl (P := P) w base t o.type e i z size bytes ht hi hz hsize hby hzs hsz he h1 v l hown B A m c hr h63 hbytes hbase
  unfold Oper.wpIn
  refine ⟨?_, ?_⟩
  · simp [Oper.about, ho, resolve, Target.leads, Sem.run_pure]
  · rw [Oper.semAt_plain F _ _ (by rw [ho]; intro c hc'; cases hc')]
    simp [execOp, ho, resolve, invoke, builtin, hs, hx, hrun, Result.andThen]
    exact h v' w' h2 h3 h4

/-- what the rounds of Split keep: g the box of out, the bytes at A -/
structure SplI (w : World) (D : Nat) (A : Option Addr) (l : List UInt8) (pre : List Ch) (W : World) : Prop where
  ex : ∃ v, Blk W w.heap.size 28 #[v] ∧ Own W (D + 2) 36 1 Ch.cells v pre
  by_ : BySl W W.heap.size A l
  below : Below w.heap.size w W

theorem SplI.chg {w W W' : World} {D : Nat} {A : Option Addr} {l : List UInt8} {pre : List Ch} {S : Nat → Prop} (h : SplI w D A l pre W) (hc : Chg S W W') (hn : ∀ k, S k → w.heap.size < k ∧ k < D + 2 ∧ blockOf A ≠ some k) : SplI w D A l pre W' := by
  obtain ⟨⟨v, hb, ho⟩, hs, hB⟩ := h
  exact ⟨⟨v, hb.chg hc (fun h => by have := hn _ h; omega), ho.chg hc (fun g hg h => by have := hn _ h; have := (ho.lt hg).1; omega)⟩, hs.chg hc (fun g hg h => (hn _ h).2.2 hg),
    hB.trans (hc.below hB.size (fun i hi h => by have := hn _ h; omega))⟩

theorem chs_ok {A : Option Addr} {l : List UInt8} {W : World} (hs : BySl W W.heap.size A l) {c : Ch} (hc : c ∈ chs A l) : Ch.Ok W c := by
  obtain ⟨i, hi⟩ := List.getElem?_of_mem hc
  have hil := (List.getElem?_eq_some_iff.1 hi).1
  rw [chs_len] at hil
  have e : (chs A l)[i]? = some (chAt A l i) := by
    unfold chs
    rw [List.getElem?_map, List.getElem?_range hil]; rfl
  rw [e] at hi
  injection hi with hi
  subst hi
  have hlt : 48 * i < l.length := by omega
  have hne : l ≠ [] := by rintro rfl; simp at hlt
  refine ⟨?_, ?_, ?_, Nat.le_refl _, fun hA => ?_⟩
  · have h1 := (hs.take (48 * i + min 48 (l.length - 48 * i))).cut (48 * i + min 48 (l.length - 48 * i)) (48 * i) (by rw [List.length_take]; omega)
    have e1 : (l.take (48 * i + min 48 (l.length - 48 * i))).drop (48 * i) = (l.drop (48 * i)).take 48 := by
      rw [List.drop_take, show 48 * i + min 48 (l.length - 48 * i) - 48 * i = min 48 (l.length - 48 * i) from by omega]
      have : (l.drop (48 * i)).length = l.length - 48 * i := List.length_drop
      rw [← this, ← List.take_take, List.take_length]
    rw [e1] at h1
    exact h1
  · show _ = ((l.drop (48 * i)).take 48).length
    rw [List.length_take, List.length_drop]
    rfl
  · show min 48 (l.length - 48 * i) ≤ maxLen
    unfold maxLen; omega
  · exfalso
    obtain ⟨b, off, hA2, _⟩ := hs hne
    subst hA2
    simp only [chAt, cutA] at hA
    split at hA <;> cases hA
theorem chs_block {A : Option Addr} {l : List UInt8} {c : Ch} (hc : c ∈ chs A l) {k : Nat} (hk : blockOf c.A = some k) : blockOf A = some k := by
  obtain ⟨i, hi⟩ := List.getElem?_of_mem hc
  have hil := (List.getElem?_eq_some_iff.1 hi).1
  rw [chs_len] at hil
  have e : (chs A l)[i]? = some (chAt A l i) := by
    unfold chs
    rw [List.getElem?_map, List.getElem?_range hil]; rfl
  rw [e] at hi
  injection hi with hi
  subst hi
  cases A with
  | none => simp [chAt, cutA_none, blockOf] at hk
  | some a =>
    have h1 := cutA_block (some a) (48 * i + min 48 (l.length - 48 * i)) (48 * i) 1 0 0
    simp only [chAt] at hk
    generalize cutA (some a) (48 * i + min 48 (l.length - 48 * i)) (48 * i) 1 = B at *
    cases B with
    | none => cases hk
    | some b =>
      simp only [Value.ownBlock, Option.some.injEq] at h1
      simp only [blockOf, Option.map_some, Option.some.injEq] at hk ⊢
      omega

theorem SplI.box {w W w' : World} {D : Nat} {A : Option Addr} {l : List UInt8} {pre : List Ch} {v : Value} {o : Obj} (HH : Blk W w.heap.size 28 #[v] ∧ Own W (D + 2) 36 1 Ch.cells v pre ∧ BySl W W.heap.size A l ∧ Below w.heap.size w W)
    (hg : (W.drew.alloc o).grownBy w' v.ownBlock) (hD : w.heap.size < D) : Blk w' w.heap.size 28 #[v] :=
  HH.1.chg (((Chg.refl (fun k => v.ownBlock = some k) W).drew.alloc o).trans (Chg.of_grown hg (fun k hk _ => hk)) (fun _ _ h => h)) (fun h => by have := (HH.2.1.lt h).1; omega)

theorem SplI.round {a : Act} {w W w' : World} {D b1 b2 : Nat} {A : Option Addr} {l : List UInt8} {pre : List Ch} {c : Ch} {v v' : Value} {o : Obj} (hD : w.heap.size < D) (hs : D + 2 ≤ W.heap.size) (h1 : w.heap.size < b1) (h1' : b1 < D) (h2 : w.heap.size < b2) (h2' : b2 < D)
    (hA : ∀ k, blockOf A = some k → w.heap.size < k ∧ k < D)
    (HH : Blk W w.heap.size 28 #[v] ∧ Own W (D + 2) 36 1 Ch.cells v pre ∧ BySl W W.heap.size A l ∧ Below w.heap.size w W)
    (ho : Own w' (D + 2) 36 1 Ch.cells v' (pre ++ [c])) (hg : (W.drew.alloc o).grownBy w' v.ownBlock) :
    roundEndT (fun k => ¬ (k = b1 ∨ k = b2) ∧ k ≠ D ∧ k ≠ D + 1) (SplI w D A l) (fun _ _ _ => False) (pre ++ [c]) W .normal a (w'.setCell ⟨w.heap.size, 0, none⟩ v') := by
  have hc : Chg (fun k => v.ownBlock = some k) W w' := ((Chg.refl (fun k => v.ownBlock = some k) W).drew.alloc o).trans (Chg.of_grown hg (fun k hk _ => hk)) (fun _ _ h => h)
  have hne : ¬ v.ownBlock = some w.heap.size := fun h => by have := (HH.2.1.lt h).1; omega
  have hb := HH.1.chg hc hne
  refine ⟨(hc.mono (T := fun k => ¬ (k = b1 ∨ k = b2) ∧ k ≠ D ∧ k ≠ D + 1) (fun k _ hk => ?_)).setCell (p := ⟨w.heap.size, 0, none⟩) (fun _ => by refine ⟨?_, ?_, ?_⟩ <;> simp <;> omega) _, ⟨v', hb.set_ 0 _, ?_⟩, ?_, ?_⟩
  · have := (HH.2.1.lt hk).1
    omega
  · exact ho.chg ((Chg.refl (fun k => k = w.heap.size) w').setCell (p := ⟨w.heap.size, 0, none⟩) (fun _ => rfl) _) (fun g hg h => by have := (ho.lt hg).1; omega)
  · refine (HH.2.2.1.chg hc (fun k hk h => ?_)).chg ((Chg.refl (fun k => k = w.heap.size) w').setCell (p := ⟨w.heap.size, 0, none⟩) (fun _ => rfl) _) (fun k hk h => ?_)
    · have := (HH.2.1.lt h).1; have := hA k hk; omega
    · have := hA k hk; omega
  · exact (HH.2.2.2.trans (hc.below HH.2.2.2.size (fun i hi h => by have := (HH.2.1.lt h).1; omega))).setCell (Nat.le_refl _) _

set_option maxRecDepth 100000 in
set_option maxHeartbeats 1000000 in
theorem split_any (l : List UInt8) (A0 : Option Addr) (n0 cap0 : Nat) (w : World) (hl : BySl w w.heap.size A0 l) (hn : Hid (n0 = l.length)) (hm : n0 ≤ 1000) (hc : n0 ≤ cap0) (hA : A0 = none → cap0 = 0) :
    Calls Try.prog 34 #[.slice A0 n0 cap0] w fun e w' => ∃ A n cap cs, e = .returned (.slice A n cap) ∧ ChFresh w w' A n cap cs ∧ cs.map Ch.bs = cks l := by
  have hcl := Lib.hid (fun (w1 : World) (hb : Below w.heap.size w w1) => byteClone_any l A0 n0 cap0 w1 (Sl.ext hl hb) (by rw [← hn.out]; omega) hn hA hc)
  refine (callsIn_wide (n := 3)).1 ?_
  refine callsIn_of_wp_marks Try.func34 rfl trivial ?_ rfl
  simp only [Try.ntmps34, List.size_toArray, List.length_cons, List.length_nil, Nat.reduceAdd, Nat.reduceSub, Array.replicate_succ, Array.replicate_zero, List.push_toArray, List.append_toArray, List.nil_append, List.cons_append]
  gi_wp2_with fail
  refine ⟨trivial, ?_⟩
  refine (callsIn_wide.2 (hcl.out _ ((Below.refl _ _).alloc (Nat.le_refl _) _))).mono ?_; rintro e w1 ⟨v1, rfl, hown1, hfr1, hb1⟩
  obtain ⟨A1, n1, c1, rfl, hn1, hle1, hmx1, hnil1⟩ := hown1.form
  have e1 : n1 = n0 := hn1.out.trans hn.out.symm
  subst e1
  have hB1 : Below w.heap.size w w1 := ((Below.refl w.heap.size w).alloc (Nat.le_refl _) (.cells #[.slice none 0 0] 28)).trans (hb1.mono (by simp))
  have hbx1 : Blk w1 w.heap.size 28 #[.slice none 0 0] := (Blk.new w _ _).ext hb1
  have hsl1 := hown1.sl encB_len
  have hA1 : ∀ k, blockOf A1 = some k → w.heap.size < k ∧ k < w1.heap.size := fun k hk => by
    have h1 := hfr1 k (hown1.blk hk)
    have h2 := hown1.lt (hown1.blk hk)
    rw [World.size_alloc] at h1
    omega
  have hs1 : w.heap.size + 1 ≤ w1.heap.size := by have := hb1.size; rw [World.size_alloc] at this; omega
  clear hown1 hfr1 hb1 hcl hl
  gi_wp2_with fail
  refine ⟨trivial, ?_⟩
  refine (callsIn_wide.2 (chunk_any _ _ _ _)).mono ?_; rintro e w' ⟨rfl, rfl⟩
  gi_wp2_with fail
  have hB2 : Below w1.heap.size w1 ((w1.alloc (.cells #[.slice A1 n1 c1] 36)).alloc (.cells #[.int .i64 48] 3)) := ((Below.refl _ _).alloc (Nat.le_refl _) _).alloc (by simp) _
  have hsz : ((w1.alloc (.cells #[.slice A1 n1 c1] 36)).alloc (.cells #[.int .i64 48] 3)).heap.size = w1.heap.size + 2 := by simp
  have z1 : Blk ((w1.alloc (.cells #[.slice A1 n1 c1] 36)).alloc (.cells #[.int .i64 48] 3)) w1.heap.size 36 #[.slice A1 n1 c1] := (Blk.new _ _ _).alloc _
  have z2 : Blk ((w1.alloc (.cells #[.slice A1 n1 c1] 36)).alloc (.cells #[.int .i64 48] 3)) (w1.heap.size + 1) 3 #[.int .i64 48] := by
    have := Blk.new (w1.alloc (.cells #[.slice A1 n1 c1] 36)) 3 #[.int .i64 48]
    rwa [World.size_alloc] at this
  have hbx2 := hbx1.ext hB2
  have hsl2 := Sl.ext hsl1 hB2
  have hB0 : Below w.heap.size w ((w1.alloc (.cells #[.slice A1 n1 c1] 36)).alloc (.cells #[.int .i64 48] 3)) := hB1.trans (hB2.mono hB1.size)
  generalize ((w1.alloc (.cells #[.slice A1 n1 c1] 36)).alloc (.cells #[.int .i64 48] 3)) = w2 at *
  have hit := chunk_iter (3 - 1) l A1 n1 c1 w1.heap.size (w1.heap.size + 1) w2 hn (by omega) hle1 (z1.cell 0) (z2.cell 0)
  obtain ⟨i0, hi, hz0, hz1, hz3⟩ := info_parts chInfo
  have Hm : Hid (l.length ≤ 1000) := by rw [Hid, ← hn.out]; exact hm
  generalize hg1 : w1.heap.size = g1 at *
  refine wpIn_rangeT (n := 3) (gf := 92) (lb := #[.pointer (some ⟨g1, 0, none⟩), .pointer (some ⟨g1 + 1, 0, none⟩)]) rfl (enters_of Try.func92 (by kernel_rfl) rfl) (encs := encC) (fun _ => rfl) (chs A1 l) (fun _ => False) (fun k => k = g1 ∨ k = g1 + 1) (fun k h => h.elim) (fun k h => by omega) hit
    (SplI w (g1 + 2) A1 l) (fun _ _ _ => False) (fun s X Y h hc => h.chg hc (fun k hk => by rcases hk with hk | hk | hk; (· exact hk.elim); all_goals (refine ⟨by omega, by omega, fun h => ?_⟩; have := hA1 k h; omega))) (fun c s X Y h hc => h.elim) ⟨⟨_, hbx2, Own.nil_ _ _ _ _ _⟩, hsl2, hB0⟩
    (fun x => { tmps := #[.slice A0 n1 cap0, undef, .slice none 0 0, .pointer (some ⟨w.heap.size, 0, none⟩), .slice x.A x.n x.cap, .slice A0 n1 cap0, .slice A1 n1 c1, .func (.func 92) #[] #[.pointer (some ⟨g1, 0, none⟩), .pointer (some ⟨g1 + 1, 0, none⟩)], .slice x.A x.n x.cap, undef, undef, undef, undef, undef, undef], defers := [] }) ?assign ?body ?done ?stop
  case assign =>
    intro l' x W K hK
    have e : ∀ (T : Array Value), ((#[8] : Array Tmp).zip (encC x)).foldl (fun t (y : Tmp × Value) => t.setIfInBounds y.1 y.2) T = T.setIfInBounds 8 (.slice x.A x.n x.cap) := fun T => by simp [encC]
    rw [e]
    gi_wp2
    exact hK
  case body =>
    rintro l' pre x W ⟨⟨v, hb, ho⟩, hs, hB⟩ hpre hsz'
    rw [hsz] at hsz' ⊢
    obtain ⟨A2, n2, cap2, rfl, hn2, hle2, hmx2⟩ := ho.form
    have c0 : W.cell? ⟨w.heap.size, 0, none⟩ = some (.slice A2 n2 cap2) := hb.cell 0
    have f0 := hb.free 0
    have hxm : x ∈ chs A1 l := hpre.subset (by simp)
    have hpl : pre.length + 1 ≤ 30 := by
      have h1 := hpre.length_le
      rw [chs_len] at h1
      simp only [List.length_append, List.length_cons, List.length_nil] at h1
      have := Hm.out
      omega
    have hok := chs_ok hs hxm
    have hxc : x.cap = x.n := by
      obtain ⟨i, hi⟩ := List.getElem?_of_mem hxm
      have hil := (List.getElem?_eq_some_iff.1 hi).1
      rw [chs_len] at hil
      have e : (chs A1 l)[i]? = some (chAt A1 l i) := by
        unfold chs
        rw [List.getElem?_map, List.getElem?_range hil]; rfl
      rw [e] at hi
      injection hi with hi
      subst hi
      rfl
    obtain ⟨xA, xn, xcap, xbs⟩ := x
    simp only at hxc
    subst hxc
    have HH := Lib.hid (And.intro hb (And.intro ho (And.intro hs hB)))
    have HP : Hid (pre.length + 1 ≤ 30) := hpl
    have HL1 : Hid (pre.length + [(⟨xA, xcap, xcap, xbs⟩ : Ch)].length ≤ maxLen) := by
      have := HP.out
      unfold Hid maxLen; simp; omega
    have HL2 : Hid ((pre.length + [(⟨xA, xcap, xcap, xbs⟩ : Ch)].length) * 24 ≤ 140737488355328) := by
      have := HP.out
      unfold Hid; simp; omega
    have hclip := fun (W' : World) => Lib.hid (clip_any xA xcap xcap W' (Nat.le_refl _))
    clear hb ho hs hB hpre hxm hpl hok
    simp only
    gi_wp2_with fail
    refine wpIn_region_any (by kernel_rfl) ?_
    change wpAnyIn _ _ _ _ _ _ _ _ _ (World.drew _)
    have c0d : W.drew.cell? ⟨w.heap.size, 0, none⟩ = some (.slice A2 n2 cap2) := c0
    have c0b : ∀ o, (W.alloc o).cell? ⟨w.heap.size, 0, none⟩ = some (.slice A2 n2 cap2) := fun o => (World.cell?_alloc_lt W o ⟨w.heap.size, 0, none⟩ (by have := HH.out.1.lt; exact this)).trans c0
    have c0a : ∀ o, (W.drew.alloc o).cell? ⟨w.heap.size, 0, none⟩ = some (.slice A2 n2 cap2) := fun o => (World.cell?_alloc_lt W.drew o ⟨w.heap.size, 0, none⟩ (by have := HH.out.1.lt; exact this)).trans c0
    refine wpAnyIn_ready (rs := [0, 1]) (by kernel_rfl) (by simp) (AllReadyIn.cons rfl (fun K hK => ?_) (AllReadyIn.cons rfl (fun K hK => ?_) AllReadyIn.nil))
    · go_simp
      refine hK _ _ ?_
      clear hK K
      refine wpAnyIn_ready (rs := [1]) (by kernel_rfl) (by simp) (AllReadyIn.cons rfl (fun K hK => ?_) AllReadyIn.nil)
      go_simp
      refine hK _ _ ?_
      clear hK K
      refine wpAnyIn_ready (rs := [2]) (by kernel_rfl) (by simp) (AllReadyIn.cons rfl (fun K hK => ?_) AllReadyIn.nil)
      go_simp
      refine ⟨trivial, (CallsIn.inRound l' (callsIn_wide.2 ((hclip _).out))).mono ?_⟩
      rintro e w' ⟨rfl, rfl⟩
      refine hK _ _ ?_
      clear hK K
      refine wpAnyIn_ready (rs := [3]) (by kernel_rfl) (by simp) (AllReadyIn.cons rfl (fun K hK => ?_) AllReadyIn.nil)
      go_simp
      refine hK _ _ ?_
      clear hK K
      refine wpAnyIn_ready (rs := [4]) (by kernel_rfl) (by simp) (AllReadyIn.cons rfl (fun K hK => ?_) AllReadyIn.nil)
      refine stepIn_append_sl _ rfl _ _ _ rfl (g1 + 2 + 2) 36 i0 _ 1 24 Try.underlying28 hi hz0 hz1 hz3 rfl (by decide) Ch.cells_len Ch.cells_one (.slice A2 n2 cap2) pre (by rfl) (HH.out.2.1.drew.alloc _) _ (some ⟨W.heap.size, 0, none⟩) [⟨xA, xcap, xcap, xbs⟩] 1 1 (by rfl) rfl (ch_block (w2 := W.drew) (c := ⟨xA, xcap, xcap, xbs⟩)) HL1.out HL2.out (by simp; omega) ?_
      intro v' w5 hown5 hgrow5 hat5
      refine hK _ _ ?_
      clear hK K
      obtain ⟨A5, n5, cap5, rfl, -, -, -⟩ := hown5.form
      have b5 := SplI.box (D := g1 + 2) HH.out hgrow5 (by omega)
      have y5 : w5.cell? ⟨w.heap.size, 0, none⟩ = some (.slice A2 n2 cap2) := b5.cell 0
      have f5 := b5.free 0
      have HG := Lib.hid (And.intro hown5 hgrow5)
      clear hown5 hgrow5 hat5 b5
      refine wpAnyIn_ready (rs := [5]) (by kernel_rfl) (by simp) (AllReadyIn.cons rfl (fun K hK => ?_) AllReadyIn.nil)
      go_simp
      refine hK _ _ ?_
      clear hK K
      refine wpAnyIn_done (by kernel_rfl) ?_ _
      gi_wp2
      exact SplI.round (D := g1 + 2) (b1 := g1) (b2 := g1 + 1) (o := .cells #[.slice xA xcap xcap] 36) (by omega) hsz' (by omega) (by omega) (by omega) (by omega) (fun k hk => by have := hA1 k hk; omega) HH.out HG.out.1 HG.out.2
    · go_simp
      refine hK _ _ ?_
      clear hK K
      refine wpAnyIn_ready (rs := [0, 2]) (by kernel_rfl) (by simp) (AllReadyIn.cons rfl (fun K hK => ?_) (AllReadyIn.cons rfl (fun K hK => ?_) AllReadyIn.nil))
      · go_simp
        refine hK _ _ ?_
        clear hK K
        refine wpAnyIn_ready (rs := [2]) (by kernel_rfl) (by simp) (AllReadyIn.cons rfl (fun K hK => ?_) AllReadyIn.nil)
        go_simp
        refine ⟨trivial, (CallsIn.inRound l' (callsIn_wide.2 ((hclip _).out))).mono ?_⟩
        rintro e w' ⟨rfl, rfl⟩
        refine hK _ _ ?_
        clear hK K
        refine wpAnyIn_ready (rs := [3]) (by kernel_rfl) (by simp) (AllReadyIn.cons rfl (fun K hK => ?_) AllReadyIn.nil)
        go_simp
        refine hK _ _ ?_
        clear hK K
        refine wpAnyIn_ready (rs := [4]) (by kernel_rfl) (by simp) (AllReadyIn.cons rfl (fun K hK => ?_) AllReadyIn.nil)
        refine stepIn_append_sl _ rfl _ _ _ rfl (g1 + 2 + 2) 36 i0 _ 1 24 Try.underlying28 hi hz0 hz1 hz3 rfl (by decide) Ch.cells_len Ch.cells_one (.slice A2 n2 cap2) pre (by rfl) (HH.out.2.1.drew.alloc _) _ (some ⟨W.heap.size, 0, none⟩) [⟨xA, xcap, xcap, xbs⟩] 1 1 (by rfl) rfl (ch_block (w2 := W.drew) (c := ⟨xA, xcap, xcap, xbs⟩)) HL1.out HL2.out (by simp; omega) ?_
        intro v' w5 hown5 hgrow5 hat5
        refine hK _ _ ?_
        clear hK K
        obtain ⟨A5, n5, cap5, rfl, -, -, -⟩ := hown5.form
        have b5 := SplI.box (D := g1 + 2) HH.out hgrow5 (by omega)
        have y5 : w5.cell? ⟨w.heap.size, 0, none⟩ = some (.slice A2 n2 cap2) := b5.cell 0
        have f5 := b5.free 0
        have HG := Lib.hid (And.intro hown5 hgrow5)
        clear hown5 hgrow5 hat5 b5
        refine wpAnyIn_ready (rs := [5]) (by kernel_rfl) (by simp) (AllReadyIn.cons rfl (fun K hK => ?_) AllReadyIn.nil)
        go_simp
        refine hK _ _ ?_
        clear hK K
        refine wpAnyIn_done (by kernel_rfl) ?_ _
        gi_wp2
        exact SplI.round (D := g1 + 2) (b1 := g1) (b2 := g1 + 1) (o := .cells #[.slice xA xcap xcap] 36) (by omega) hsz' (by omega) (by omega) (by omega) (by omega) (fun k hk => by have := hA1 k hk; omega) HH.out HG.out.1 HG.out.2
      · go_simp
        refine ⟨trivial, (CallsIn.inRound l' (callsIn_wide.2 ((hclip _).out))).mono ?_⟩
        rintro e w' ⟨rfl, rfl⟩
        refine hK _ _ ?_
        clear hK K
        refine wpAnyIn_ready (rs := [0, 3]) (by kernel_rfl) (by simp) (AllReadyIn.cons rfl (fun K hK => ?_) (AllReadyIn.cons rfl (fun K hK => ?_) AllReadyIn.nil))
        · go_simp
          refine hK _ _ ?_
          clear hK K
          refine wpAnyIn_ready (rs := [3]) (by kernel_rfl) (by simp) (AllReadyIn.cons rfl (fun K hK => ?_) AllReadyIn.nil)
          go_simp
          refine hK _ _ ?_
          clear hK K
          refine wpAnyIn_ready (rs := [4]) (by kernel_rfl) (by simp) (AllReadyIn.cons rfl (fun K hK => ?_) AllReadyIn.nil)
          refine stepIn_append_sl _ rfl _ _ _ rfl (g1 + 2 + 2) 36 i0 _ 1 24 Try.underlying28 hi hz0 hz1 hz3 rfl (by decide) Ch.cells_len Ch.cells_one (.slice A2 n2 cap2) pre (by rfl) (HH.out.2.1.drew.alloc _) _ (some ⟨W.heap.size, 0, none⟩) [⟨xA, xcap, xcap, xbs⟩] 1 1 (by rfl) rfl (ch_block (w2 := W.drew) (c := ⟨xA, xcap, xcap, xbs⟩)) HL1.out HL2.out (by simp; omega) ?_
          intro v' w5 hown5 hgrow5 hat5
          refine hK _ _ ?_
          clear hK K
          obtain ⟨A5, n5, cap5, rfl, -, -, -⟩ := hown5.form
          have b5 := SplI.box (D := g1 + 2) HH.out hgrow5 (by omega)
          have y5 : w5.cell? ⟨w.heap.size, 0, none⟩ = some (.slice A2 n2 cap2) := b5.cell 0
          have f5 := b5.free 0
          have HG := Lib.hid (And.intro hown5 hgrow5)
          clear hown5 hgrow5 hat5 b5
          refine wpAnyIn_ready (rs := [5]) (by kernel_rfl) (by simp) (AllReadyIn.cons rfl (fun K hK => ?_) AllReadyIn.nil)
          go_simp
          refine hK _ _ ?_
          clear hK K
          refine wpAnyIn_done (by kernel_rfl) ?_ _
          gi_wp2
          exact SplI.round (D := g1 + 2) (b1 := g1) (b2 := g1 + 1) (o := .cells #[.slice xA xcap xcap] 36) (by omega) hsz' (by omega) (by omega) (by omega) (by omega) (fun k hk => by have := hA1 k hk; omega) HH.out HG.out.1 HG.out.2
        · go_simp
          refine hK _ _ ?_
          clear hK K
          refine wpAnyIn_ready (rs := [0]) (by kernel_rfl) (by simp) (AllReadyIn.cons rfl (fun K hK => ?_) AllReadyIn.nil)
          go_simp
          refine hK _ _ ?_
          clear hK K
          refine wpAnyIn_ready (rs := [4]) (by kernel_rfl) (by simp) (AllReadyIn.cons rfl (fun K hK => ?_) AllReadyIn.nil)
          refine stepIn_append_sl _ rfl _ _ _ rfl (g1 + 2 + 2) 36 i0 _ 1 24 Try.underlying28 hi hz0 hz1 hz3 rfl (by decide) Ch.cells_len Ch.cells_one (.slice A2 n2 cap2) pre (by rfl) (HH.out.2.1.drew.alloc _) _ (some ⟨W.heap.size, 0, none⟩) [⟨xA, xcap, xcap, xbs⟩] 1 1 (by rfl) rfl (ch_block (w2 := W.drew) (c := ⟨xA, xcap, xcap, xbs⟩)) HL1.out HL2.out (by simp; omega) ?_
          intro v' w5 hown5 hgrow5 hat5
          refine hK _ _ ?_
          clear hK K
          obtain ⟨A5, n5, cap5, rfl, -, -, -⟩ := hown5.form
          have b5 := SplI.box (D := g1 + 2) HH.out hgrow5 (by omega)
          have y5 : w5.cell? ⟨w.heap.size, 0, none⟩ = some (.slice A2 n2 cap2) := b5.cell 0
          have f5 := b5.free 0
          have HG := Lib.hid (And.intro hown5 hgrow5)
          clear hown5 hgrow5 hat5 b5
          refine wpAnyIn_ready (rs := [5]) (by kernel_rfl) (by simp) (AllReadyIn.cons rfl (fun K hK => ?_) AllReadyIn.nil)
          go_simp
          refine hK _ _ ?_
          clear hK K
          refine wpAnyIn_done (by kernel_rfl) ?_ _
          gi_wp2
          exact SplI.round (D := g1 + 2) (b1 := g1) (b2 := g1 + 1) (o := .cells #[.slice xA xcap xcap] 36) (by omega) hsz' (by omega) (by omega) (by omega) (by omega) (fun k hk => by have := hA1 k hk; omega) HH.out HG.out.1 HG.out.2
  case done =>
    rintro W ⟨⟨v, hb, ho⟩, hs, hB⟩ hK
    have c0 : W.cell? ⟨w.heap.size, 0, none⟩ = some v := hb.cell 0
    obtain ⟨A2, n2, cap2, rfl, hn2, hle2, hmx2⟩ := ho.form
    have hP := Lib.hid (And.intro ho (And.intro hs hB))
    clear ho hs hB
    gi_wp2
    refine ⟨by simp, .inl ⟨_, _, rfl, run_takeDeferred hK, ?_⟩⟩
    have hc : Chg (fun k => k = w2.heap.size) W (W.putObj w2.heap.size (.deferred none)) := (Chg.refl (fun k => k = w2.heap.size) W).putObj (fun _ => rfl) _
    refine ⟨_, results_tmp (t := 2) rfl _ _ _, A2, n2, cap2, chs A1 l, rfl, ⟨?_, ?_, hn2, ?_, ?_, ?_⟩, chs_bs _ _⟩
    · exact (hP.out.1.chg hc (fun g hg h => by have := (hP.out.1.lt hg).1; omega)).sls Ch.cells_len
    · intro c hc'
      exact chs_ok (hP.out.2.1.chg hc (fun k hk h => by have := hA1 k hk; omega)) hc'
    · intro k hk
      have h1 : (Value.slice A2 n2 cap2).ownBlock = some k := by
        cases A2 with
        | none => cases hk
        | some a => simpa [blockOf, Value.ownBlock] using hk
      have := (hP.out.1.lt h1).1
      omega
    · intro c hc' k hk
      have := hA1 k (chs_block hc' hk)
      omega
    · exact hP.out.2.2.trans (hc.below hP.out.2.2.size (fun i hi h => by omega))
  case stop =>
    rintro c pre W h _
    exact h.elim
end Go.Proofs.Ytiljpbncfofnhaa.Split
