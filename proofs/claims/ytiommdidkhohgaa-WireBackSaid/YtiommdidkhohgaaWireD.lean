/- wire: the program's numbers. -/
import Derived.Test.YtiommdidkhohgaaWireC
import Derived.Outline
import Derived.BigQuiet
import Derived.Deep.QuietTactic
import Derived.Deep.RegionWith
import Derived.Deep.RegionHeld3
import Derived.Deep.DrawnRows
import Derived.Deep.LoopGhost
import Derived.Deep.DeepCutAuto
import Derived.Laws.EntriesVeiled
namespace Go.Proofs.Ytiommdidkhohgaa.Wire
open Go.RowKit Go.ChangeShapes Go.WideShapes Go.ChangeAt
set_option linter.unusedVariables false
set_option linter.unusedSimpArgs false
attribute [local go_sem ↓] Go.wp_at_zero Go.wp_at_succ
open Go.Shelf Go.Proofs.Ytiommdidkhohgaa.Word

theorem nInfo : (Try.prog.info? 31).map (fun i => (i.zero, i.size, i.bytes)) = some (some (.int .u64 0), 1, 8) := by kernel_rfl
theorem lit_nat (w : World) (x : Nat) (t : TypeId) : Sl (w.alloc (.cells #[.int .u64 (x : Int)] t)) (w.alloc (.cells #[.int .u64 (x : Int)] t)).heap.size 1 encN (some ⟨w.heap.size, 0, none⟩) [x] := by
  intro _
  refine ⟨w.heap.size, 0, rfl, by simp, fun k y hy j v hv => ?_⟩
  have hj : j = 0 := by
    rcases j with _ | j
    · rfl
    · simp [encN] at hv
  have hk : k = 0 := by
    rcases k with _ | k
    · rfl
    · simp at hy
  subst hj
  subst hk
  simp only [encN, List.getElem?_cons_zero, Option.some.injEq] at hv hy
  subst hv
  subst hy
  rw [(Blk.new w t _).cell]
  rfl
theorem getAt_nat (l : List UInt8) (k : Nat) : getAt l (k : Int) = getW (l.drop k) := by
  unfold getAt
  split
  · rw [List.drop_of_length_le (by omega)]; rfl
  · simp

/-- how far numbers has come: j of m are taken, d bytes -/
structure NI (l : List UInt8) (u m j d : Nat) (xs : List Nat) : Prop where
  eq : takeL m (l.drop u) = (takeL (m - j) (l.drop (u + d))).map fun (ys, k) => (xs ++ ys, d + k)
  len : xs.length = j
  wf : ∀ x ∈ xs, x < p64
  le : u + d ≤ l.length
theorem NI.none {l : List UInt8} {u m j d : Nat} {xs : List Nat} (h : NI l u m j d xs) (hj : j < m) (hg : getW (l.drop (u + d)) = none) : takeL m (l.drop u) = none := by
  rw [h.eq, show m - j = (m - j - 1) + 1 from by omega, takeL, hg]; rfl
theorem NI.next {l : List UInt8} {u m j d x k : Nat} {xs : List Nat} (h : NI l u m j d xs) (hj : j < m) (hg : getW (l.drop (u + d)) = some (x, k)) : NI l u m (j + 1) (d + k) (xs ++ [x]) := by
  have hs := get_some hg
  have hle := hs.2.2.2.1
  rw [List.length_drop] at hle
  refine ⟨?_, by simp [h.len], ?_, by have := h.le; omega⟩
  · rw [h.eq, show m - j = (m - (j + 1)) + 1 from by omega, takeL, hg]
    simp only [List.drop_drop, ← Nat.add_assoc]
    cases takeL (m - (j + 1)) (l.drop (u + d + k)) with
    | none => rfl
    | some y => obtain ⟨ys, t⟩ := y; simp [Nat.add_assoc]
  · intro y hy
    rcases List.mem_append.1 hy with hy | hy
    · exact h.wf y hy
    · rw [List.mem_singleton] at hy; subst hy; exact hs.1
theorem NI.done {l : List UInt8} {u m d : Nat} {xs : List Nat} (h : NI l u m m d xs) : takeL m (l.drop u) = some (xs, d) := by
  rw [h.eq, Nat.sub_self, takeL]; simp

/-- the box of the value that numbers makes -/
structure NB (w wr : World) (A : Option Addr) (n c : Nat) (xs : List Nat) : Prop where
  blk : Blk wr w.heap.size 34 #[.int .u64 0, .int .i64 0, .bool false, .slice none 0 0, .slice A n c]
  own : OwnA wr 31 1 encN (.slice A n c) xs
  fr : ∀ k, (Value.slice A n c).ownBlock = some k → w.heap.size < k
  be : Below w.heap.size w wr
theorem NB.ext {w wr w1 : World} {A : Option Addr} {n c : Nat} {xs : List Nat} (h : NB w wr A n c xs) (hb : Below wr.heap.size wr w1) : NB w w1 A n c xs :=
  ⟨h.blk.ext hb, h.own.ext hb, h.fr, ext_under h.be (Nat.le_refl _) hb⟩
/-- behind an append to what the box holds -/
theorem NB.appended {w w1 w2 : World} {o : Obj} {A A' : Option Addr} {n c n' c' : Nat} {xs ys : List Nat} (h : NB w w1 A n c xs) (hown : OwnA w2 31 1 encN (.slice A' n' c') ys)
    (hc : Chg (fun k => (Value.slice A n c).ownBlock = some k) (w1.alloc o) w2) (hat : (Value.slice A' n' c').ownBlock = (Value.slice A n c).ownBlock ∨ (Value.slice A' n' c').ownBlock = some (w1.alloc o).heap.size) :
    Blk w2 w.heap.size 34 #[.int .u64 0, .int .i64 0, .bool false, .slice none 0 0, .slice A n c] ∧ NB w (w2.setCell ⟨w.heap.size, 4, none⟩ (.slice A' n' c')) A' n' c' ys := by
  have hfr : ∀ k, (Value.slice A' n' c').ownBlock = some k → w.heap.size < k := fun k hk => by
    rcases hat with hat | hat
    · exact h.fr k (hat ▸ hk)
    · rw [hat] at hk
      injection hk with hk
      have := h.blk.lt
      rw [World.size_alloc] at hk
      omega
  have hb2 : Blk w2 w.heap.size 34 #[.int .u64 0, .int .i64 0, .bool false, .slice none 0 0, .slice A n c] := (h.blk.alloc o).chg hc (fun hk => by have := h.fr _ hk; omega)
  refine ⟨hb2, hb2.set_ 4 _, hown.chg ((Chg.refl (fun k => k = w.heap.size) w2).setCell (p := ⟨w.heap.size, 4, none⟩) (fun _ => rfl) _) (fun k hk e => by have := hfr k hk; omega), hfr, ?_⟩
  have h1 : Below w.heap.size w (w1.alloc o) := h.be.alloc h.be.size _
  have h2 : Below w.heap.size w w2 := h1.trans (hc.below h1.size (fun i hi hs => by have := h.fr _ hs; omega))
  exact h2.setCell (p := ⟨w.heap.size, 4, none⟩) (Nat.le_refl _) _

set_option maxHeartbeats 4000000 in
set_option maxRecDepth 100000 in
theorem numbers_any (l : List UInt8) (A : Option Addr) (n cap : Nat) (w : World) (hl : BySl w w.heap.size A l) (hn : Hid (n = l.length)) (hc : n ≤ cap) (hm : n ≤ 1000000000000) :
    Calls Try.prog 80 #[.slice A n cap] w (RetTk w (takeK .row l)) := by
  have hB0 : Below w.heap.size w (w.alloc (.cells zV 34)) := (by repeat (first | exact Below.refl _ _ | assumption | refine Below.drew ?_ | refine bdrewN ?_ _ | refine Below.alloc ?_ (by simp; try omega) _ | refine Below.setCell ?_ (by simp; try omega) _))
  have HL := Lib.hid (hl.ext hB0)
  have HZ := Lib.hid (And.intro (Blk.new w 34 zV) hB0)
  have hg0 : getAt l 0 = getW l := getAt_zero l
  cases hg : getW l with
  | none =>
    have ht : Hid (takeK .row l = none) := by unfold Hid takeK; rw [hg]
    have e0 : getV (getAt l 0) = .tuple #[.int .u64 0, .int .i64 0, .bool false] := by rw [hg0, hg]; rfl
    clear hg0 hg hl hB0
    go_enter Try.func80, Try.ntmps80
    go_wp2_with (go_at_call 82; refine (get_any l A n cap 0 _ HL.out hn hc hm).mono ?_; rintro e w1 ⟨rfl, hb⟩; rw [e0]; have HB : Hid (Blk w1 w.heap.size 34 zV ∧ Below w.heap.size w w1) := ⟨HZ.out.1.ext hb, ext_under HZ.out.2 (Nat.le_refl _) hb⟩; clear hb; have c0 : w1.cell? ⟨w.heap.size, 0, none⟩ = some (.int .u64 0) := HB.out.1.cell 0; have c1 : w1.cell? ⟨w.heap.size, 1, none⟩ = some (.int .i64 0) := HB.out.1.cell 1; have c2 : w1.cell? ⟨w.heap.size, 2, none⟩ = some (.bool false) := HB.out.1.cell 2; have c3 : w1.cell? ⟨w.heap.size, 3, none⟩ = some (.slice none 0 0) := HB.out.1.cell 3; have c4 : w1.cell? ⟨w.heap.size, 4, none⟩ = some (.slice none 0 0) := HB.out.1.cell 4; have f0 := HB.out.1.free 0; have f1 := HB.out.1.free 1; have f2 := HB.out.1.free 2; have f3 := HB.out.1.free 3; have f4 := HB.out.1.free 4)
    have hF := blk_five (HB.out.1) (.int .u64 0) (.int .i64 0) (.bool false) (.slice none 0 0) (.slice none 0 0); have q0 := hF.cell 0; have q1 := hF.cell 1; have q2 := hF.cell 2; have q3 := hF.cell 3; have q4 := hF.cell 4; clear hF
    refine bodyPost_ret (v := .tuple #[wr0.agg, .int .i64 0, .bool false]) ?_ rfl ⟨below_five HB.out.2 (Nat.le_refl _) _ _ _ _ _, by rw [ht.out]⟩
    simp [results, Try.results80, go_sem, q0, q1, q2, q3, q4, wr0_agg]
  | some x =>
    obtain ⟨m, u⟩ := x
    have e0 : getV (getAt l 0) = .tuple #[.int .u64 (m : Int), .int .i64 (u : Int), .bool true] := by rw [hg0, hg]; rfl
    have hs := get_some hg
    have hu := hs.2.2.2.1
    by_cases hbig : m ≤ 4096
    · have ht : Hid (takeK .row l = (takeL m (l.drop u)).map fun (l, k) => ({ wv0 with l := l }, u + k)) := by unfold Hid takeK; rw [hg]; simp only; rw [if_pos hbig]
      have d1 : decide ((4096 : Int) < (m : Int)) = false := decide_eq_false (by omega)
      have HLw := Lib.hid hl
      obtain ⟨i0, hi, hz, hz1, hz2⟩ := info_parts nInfo
      clear hg0 hg hl hB0 hs
      go_enter Try.func80, Try.ntmps80
      go_wp2_with (go_at_call 82; refine (get_any l A n cap 0 _ HL.out hn hc hm).mono ?_; rintro e w1 ⟨rfl, hb⟩; rw [e0]; have HB : Hid (Blk w1 w.heap.size 34 zV ∧ Below w.heap.size w w1) := ⟨HZ.out.1.ext hb, ext_under HZ.out.2 (Nat.le_refl _) hb⟩; clear hb; have c0 : w1.cell? ⟨w.heap.size, 0, none⟩ = some (.int .u64 0) := HB.out.1.cell 0; have c1 : w1.cell? ⟨w.heap.size, 1, none⟩ = some (.int .i64 0) := HB.out.1.cell 1; have c2 : w1.cell? ⟨w.heap.size, 2, none⟩ = some (.bool false) := HB.out.1.cell 2; have c3 : w1.cell? ⟨w.heap.size, 3, none⟩ = some (.slice none 0 0) := HB.out.1.cell 3; have c4 : w1.cell? ⟨w.heap.size, 4, none⟩ = some (.slice none 0 0) := HB.out.1.cell 4; have f0 := HB.out.1.free 0; have f1 := HB.out.1.free 1; have f2 := HB.out.1.free 2; have f3 := HB.out.1.free 3; have f4 := HB.out.1.free 4)
      go_loopg [3, 23] m (fun gk vu vj wr => ∃ (j d : Nat) (xs : List Nat) (A2 : Option Addr) (n2 c2 : Nat), vj = .int .u64 (j : Int) ∧ vu = .int .i64 ((u + d : Nat) : Int) ∧ m ≤ j + gk ∧ j ≤ m ∧ Hid (NI l u m j d xs) ∧ Hid (NB w wr A2 n2 c2 xs))
      case atStart =>
        refine ⟨0, 0, [], none, 0, 0, rfl, rfl, by omega, by omega, ⟨?_, rfl, by simp, hu⟩, ⟨HB.out.1, OwnA.nil_ _ _ _ _, (fun k hk => by cases hk), HB.out.2⟩⟩
        show takeL m (l.drop u) = (takeL (m - 0) (l.drop (u + 0))).map _
        rw [Nat.sub_zero, Nat.add_zero]
        cases takeL m (l.drop u) with
        | none => rfl
        | some y => obtain ⟨ys, t⟩ := y; simp
      case round =>
        obtain ⟨j, d, xs, A2, n2, c2, rfl, rfl, hgk, hj, hN, hNB⟩ := hrel
        have hlw : BySl wr wr.heap.size A l := (HLw.out.below hNB.out.be).more hNB.out.be.size
        have HW := Lib.hid hlw
        clear hlw
        by_cases hjm : j < m
        · have d2 : decide ((j : Int) < (m : Int)) = true := decide_eq_true (by omega)
          have hgn := getAt_nat l (u + d)
          have hle := hN.out.le
          obtain ⟨at', hat'⟩ : ∃ t, t = u + d := ⟨_, rfl⟩
          rw [← hat'] at hgn
          cases hg : getW (l.drop (u + d)) with
          | none =>
            have ht2 : Hid (takeK .row l = none) := by rw [Hid, ht.out, hN.out.none hjm hg]; rfl
            have e1 : getV (getAt l (at' : Int)) = .tuple #[.int .u64 0, .int .i64 0, .bool false] := by rw [hgn, hat', hg]; rfl
            rw [← hat']
            clear hg hgn hat' hle
            go_wp2_with (go_at_call 82; refine (get_any l A n cap (at' : Int) _ HW.out hn hc hm).mono ?_; rintro e w1 ⟨rfl, hb⟩; rw [e1]; have HX := Lib.hid (hNB.out.ext hb); clear hb; have k0 : w1.cell? ⟨w.heap.size, 0, none⟩ = some (.int .u64 0) := HX.out.blk.cell 0; have k1 : w1.cell? ⟨w.heap.size, 1, none⟩ = some (.int .i64 0) := HX.out.blk.cell 1; have k2 : w1.cell? ⟨w.heap.size, 2, none⟩ = some (.bool false) := HX.out.blk.cell 2; have k3 : w1.cell? ⟨w.heap.size, 3, none⟩ = some (.slice none 0 0) := HX.out.blk.cell 3; have k4 : w1.cell? ⟨w.heap.size, 4, none⟩ = some (.slice A2 n2 c2) := HX.out.blk.cell 4; have g0 := HX.out.blk.free 0; have g1 := HX.out.blk.free 1; have g2 := HX.out.blk.free 2; have g3 := HX.out.blk.free 3; have g4 := HX.out.blk.free 4)
            have hF := blk_five (HX.out.blk) (.int .u64 0) (.int .i64 0) (.bool false) (.slice none 0 0) (.slice none 0 0); have q0 := hF.cell 0; have q1 := hF.cell 1; have q2 := hF.cell 2; have q3 := hF.cell 3; have q4 := hF.cell 4; clear hF
            refine bodyPost_ret (v := .tuple #[wr0.agg, .int .i64 0, .bool false]) ?_ rfl ⟨below_five HX.out.be (Nat.le_refl _) _ _ _ _ _, by rw [ht2.out]⟩
            simp [results, Try.results80, go_sem, q0, q1, q2, q3, q4, wr0_agg]
          | some x =>
            obtain ⟨x, k⟩ := x
            have e1 : getV (getAt l (at' : Int)) = .tuple #[.int .u64 (x : Int), .int .i64 (k : Int), .bool true] := by rw [hgn, hat', hg]; rfl
            have hs := get_some hg
            have hk := hs.2.2.2.1
            rw [List.length_drop] at hk
            have e2 : IntKind.i64.wrap ((at' : Int) + (k : Int)) = ((at' + k : Nat) : Int) := by rw [IntWalk.i64_in _ (by have := hn.out; omega)]; omega
            have e3 : IntKind.u64.wrap ((j : Int) + 1) = ((j + 1 : Nat) : Int) := by rw [IntWalk.u64_in _ (by omega)]; omega
            obtain ⟨at2, hat2⟩ : ∃ t, t = at' + k := ⟨_, rfl⟩
            rw [← hat2] at e2
            have HN2 := Lib.hid (And.intro (hN.out.next hjm hg) (show at2 = u + (d + k) from by omega))
            have hb1 : Hid (xs.length + [x].length ≤ maxLen) := by rw [Hid, hN.out.len]; simp [maxLen]; omega
            have hb2 : Hid ((xs.length + [x].length) * 8 ≤ 140737488355328) := by rw [Hid, hN.out.len]; simp; omega
            rw [← hat']
            clear hg hgn hat' hle hs hk hat2
            go_wp2_with (first | (go_at_call 82; refine (get_any l A n cap (at' : Int) _ HW.out hn hc hm).mono ?_; rintro e w1 ⟨rfl, hb⟩; rw [e1]; have HX := Lib.hid (hNB.out.ext hb); clear hb; have k4 : w1.cell? ⟨w.heap.size, 4, none⟩ = some (.slice A2 n2 c2) := HX.out.blk.cell 4; have hlt := HX.out.blk.lt) | (at_builtin; refine wpList_append_a _ rfl _ _ _ rfl 31 i0 _ 1 8 Try.underlying32 hi hz hz1 hz2 rfl (by decide) encN_len encN_one _ xs (by rfl) (HX.out.own.alloc _) _ (some ⟨w1.heap.size, 0, none⟩) [x] 1 1 (by rfl) rfl (lit_nat w1 x 31) hb1.out hb2.out ?_; intro v' w' hown' hchg hat; obtain ⟨A3, n3, c3', rfl, hn3, hle3, hmx3, hnil3⟩ := hown'.form; have HA := Lib.hid (HX.out.appended hown' hchg hat); clear hown' hchg hat; have g4 := HA.out.1.free 4; have k4' : w'.cell? ⟨w.heap.size, 4, none⟩ = some (.slice A2 n2 c2) := HA.out.1.cell 4))
            go_roundg (gk - 1)
            case measure => omega
            case rel => exact ⟨j + 1, d + k, xs ++ [x], A3, n3, c3', by go_num, by rw [HN2.out.2], by omega, by omega, HN2.out.1, HA.out.2⟩
        · have d2 : decide ((j : Int) < (m : Int)) = false := decide_eq_false (by omega)
          obtain rfl : j = m := by omega
          have ht2 : Hid (takeK .row l = some ({ wv0 with l := xs }, u + d)) := by rw [Hid, ht.out, hN.out.done]; rfl
          have k0 : wr.cell? ⟨w.heap.size, 0, none⟩ = some (.int .u64 0) := hNB.out.blk.cell 0
          have k1 : wr.cell? ⟨w.heap.size, 1, none⟩ = some (.int .i64 0) := hNB.out.blk.cell 1
          have k2 : wr.cell? ⟨w.heap.size, 2, none⟩ = some (.bool false) := hNB.out.blk.cell 2
          have k3 : wr.cell? ⟨w.heap.size, 3, none⟩ = some (.slice none 0 0) := hNB.out.blk.cell 3
          have k4 : wr.cell? ⟨w.heap.size, 4, none⟩ = some (.slice A2 n2 c2) := hNB.out.blk.cell 4
          have g0 := hNB.out.blk.free 0
          have g1 := hNB.out.blk.free 1
          have g2 := hNB.out.blk.free 2
          have g3 := hNB.out.blk.free 3
          have g4 := hNB.out.blk.free 4
          obtain ⟨at', hat'⟩ : ∃ t, t = u + d := ⟨_, rfl⟩
          rw [← hat'] at ht2 ⊢
          clear hat'
          have hxl : Hid (xs.length ≤ 1000000) := by rw [Hid, hN.out.len]; omega
          go_wp2
          have hF := blk_five (hNB.out.blk) (.int .u64 0) (.int .i64 0) (.bool false) (.slice none 0 0) (.slice A2 n2 c2); have q0 := hF.cell 0; have q1 := hF.cell 1; have q2 := hF.cell 2; have q3 := hF.cell 3; have q4 := hF.cell 4; clear hF
          refine bodyPost_ret (v := .tuple #[(⟨{ wv0 with l := xs }, none, 0, 0, A2, n2, c2⟩ : Wr).agg, .int .i64 (at' : Int), .bool true]) ?_ rfl ⟨below_five hNB.out.be (Nat.le_refl _) _ _ _ _ _, by
            rw [ht2.out]
            refine ⟨⟨{ wv0 with l := xs }, none, 0, 0, A2, n2, c2⟩, rfl, rfl, ⟨OwnA.nil_ _ _ _ _, hNB.out.own.chg (chg_five (Chg.refl (fun k => k = w.heap.size) wr) rfl _ _ _ _ _) (fun k hk e => by have := hNB.out.fr k hk; omega), wv0_wf.1, wv0_wf.2.1, wv0_wf.2.2.1, hN.out.wf, wv0_wf.2.2.2.2.1, hxl.out⟩, fun k hk => by simp [blockOf] at hk, fun k hk => ?_⟩
            have := hNB.out.fr k (by revert hk; cases A2 <;> simp [Value.ownBlock, blockOf])
            omega⟩
          simp [results, Try.results80, go_sem, q0, q1, q2, q3, q4, Wr.agg, wv0]
    · have ht : Hid (takeK .row l = none) := by unfold Hid takeK; rw [hg]; simp only; rw [if_neg hbig]
      have d1 : decide ((4096 : Int) < (m : Int)) = true := decide_eq_true (by omega)
      clear hg0 hg hl hB0 hs
      go_enter Try.func80, Try.ntmps80
      go_wp2_with (go_at_call 82; refine (get_any l A n cap 0 _ HL.out hn hc hm).mono ?_; rintro e w1 ⟨rfl, hb⟩; rw [e0]; have HB : Hid (Blk w1 w.heap.size 34 zV ∧ Below w.heap.size w w1) := ⟨HZ.out.1.ext hb, ext_under HZ.out.2 (Nat.le_refl _) hb⟩; clear hb; have c0 : w1.cell? ⟨w.heap.size, 0, none⟩ = some (.int .u64 0) := HB.out.1.cell 0; have c1 : w1.cell? ⟨w.heap.size, 1, none⟩ = some (.int .i64 0) := HB.out.1.cell 1; have c2 : w1.cell? ⟨w.heap.size, 2, none⟩ = some (.bool false) := HB.out.1.cell 2; have c3 : w1.cell? ⟨w.heap.size, 3, none⟩ = some (.slice none 0 0) := HB.out.1.cell 3; have c4 : w1.cell? ⟨w.heap.size, 4, none⟩ = some (.slice none 0 0) := HB.out.1.cell 4; have f0 := HB.out.1.free 0; have f1 := HB.out.1.free 1; have f2 := HB.out.1.free 2; have f3 := HB.out.1.free 3; have f4 := HB.out.1.free 4)
      have hF := blk_five (HB.out.1) (.int .u64 0) (.int .i64 0) (.bool false) (.slice none 0 0) (.slice none 0 0); have q0 := hF.cell 0; have q1 := hF.cell 1; have q2 := hF.cell 2; have q3 := hF.cell 3; have q4 := hF.cell 4; clear hF
      refine bodyPost_ret (v := .tuple #[wr0.agg, .int .i64 0, .bool false]) ?_ rfl ⟨below_five HB.out.2 (Nat.le_refl _) _ _ _ _ _, by rw [ht.out]⟩
      simp [results, Try.results80, go_sem, q0, q1, q2, q3, q4, wr0_agg]
end Go.Proofs.Ytiommdidkhohgaa.Wire
