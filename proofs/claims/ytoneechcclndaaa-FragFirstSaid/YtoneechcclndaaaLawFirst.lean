/- FragFirst: each first so many fragments of a tree, 1 at least, are one; so is what is below a fragment, with it, each one's Depth less its own: whatever the input, the law returns true and leaves its arguments as they were. -/
import Derived.Test.YtoneechcclndaaaFrC
import Derived.Outline
import Derived.BigQuiet
import Derived.Deep.QuietTactic
import Derived.Deep.RegionWith
import Derived.Deep.RegionHeld3
import Derived.Deep.DrawnRows
import Derived.Deep.LoopGhost
import Derived.Deep.DeepCutAuto
import Derived.Laws.EntriesVeiled
namespace Go.Proofs.Ytoneechcclndaaa.lawFirst
open Go.RowKit Go.ChangeShapes Go.WideShapes Go.ChangeAt
set_option linter.unusedVariables false
set_option linter.unusedSimpArgs false
attribute [local go_sem ↓] Go.wp_at_zero Go.wp_at_succ
open Go.Shelf FragA FragB MayA Tree FCheck FTr FForm Wire

theorem lit_i64 {z : Int} (h1 : -9223372036854775808 ≤ z) (h2 : z ≤ 9223372036854775807) : (Lit.int .i64 z).wf = true := by
  simpa [Lit.wf, IntKind.min, IntKind.max, IntKind.signed, IntKind.bits] using And.intro h1 h2
theorem wf_may {f : Fr} (h : mayB f = true) : f.Wf := by
  have ha := may_all h
  exact ⟨lit_i64 (by omega) (by omega), lit_i64 (by omega) (by omega), lit_i64 (by omega) (by omega), lit_i64 (by omega) (by omega), lit_i64 (by omega) (by omega), lit_i64 (by omega) (by omega), lit_i64 (by omega) (by omega), by omega⟩
theorem wf_chk {l : List Fr} (h : chk l = 0) : FrsWf l := fun f hf => wf_may ((chk_may h).2.2 f hf)
theorem lit_g {W : World} {g : Nat} (f : Fr) (hg : W.heap.size = g) : Sl (W.alloc (.cells #[.int .i64 f.node, .int .i64 f.part, .int .i64 f.depth, .int .i64 f.x, .int .i64 f.y, .int .i64 f.w, .int .i64 f.h, .string f.text] 65)) (W.alloc (.cells #[.int .i64 f.node, .int .i64 f.part, .int .i64 f.depth, .int .i64 f.x, .int .i64 f.y, .int .i64 f.w, .int .i64 f.h, .string f.text] 65)).heap.size 8 Fr.cells (some ⟨g, 0, none⟩) [f] := by
  subst hg; exact lit_list W [f] 65 Fr.cells_len
/-- how far what is below has been put together -/
def upTo (l : List Fr) (d : Int) (i k : Nat) : List Fr := ((l.drop i).take (k - i)).map (lift d)
theorem upTo_len (l : List Fr) (d : Int) (i k : Nat) : (upTo l d i k).length ≤ l.length := by unfold upTo; rw [List.length_map, List.length_take, List.length_drop]; omega
theorem upTo_next {l : List Fr} {d : Int} {i k : Nat} {f : Fr} (hx : l[k]? = some f) (h : i ≤ k) : upTo l d i (k + 1) = upTo l d i k ++ [lift d f] := by
  unfold upTo
  rw [show k + 1 - i = (k - i) + 1 from by omega, List.take_add_one, List.getElem?_drop, show i + (k - i) = k from by omega, hx, List.map_append]; rfl
structure BlI (w wr : World) (l : List Fr) (d : Int) (i k : Nat) (A : Option Addr) (n c : Nat) : Prop where
  own : OwnA wr 65 8 Fr.cells (.slice A n c) (upTo l d i k)
  be : Below w.heap.size w wr
  fr : ∀ k, (Value.slice A n c).ownBlock = some k → w.heap.size ≤ k
theorem BlI.next {w wr w8 w9 : World} {l : List Fr} {f : Fr} {d : Int} {i k : Nat} {A A' : Option Addr} {n c n' c' : Nat} (h : BlI w wr l d i k A n c) (hx : l[k]? = some f) (hik : i ≤ k) (hb : Below wr.heap.size wr w8)
    (hown : OwnA w9 65 8 Fr.cells (.slice A' n' c') (upTo l d i k ++ [lift d f])) (hc : Chg (fun k => (Value.slice A n c).ownBlock = some k) w8 w9)
    (hat : (Value.slice A' n' c').ownBlock = (Value.slice A n c).ownBlock ∨ (Value.slice A' n' c').ownBlock = some w8.heap.size) : BlI w w9 l d i (k + 1) A' n' c' := by
  have hbo := ext_under h.be (Nat.le_refl _) hb
  rw [← upTo_next hx hik] at hown
  refine ⟨hown, hbo.trans (hc.below hbo.size fun i hi hs => by have := h.fr _ hs; omega), fun k hk => ?_⟩
  rcases hat with hat | hat
  · exact h.fr k (hat ▸ hk)
  · rw [hat] at hk; injection hk with hk; have := hbo.size; omega
theorem keep2 {w w' : World} {bb o1 o2 : Nat} {x y : Value} (h : w.cell? ⟨bb, o1, none⟩ = some x ∧ w.cell? ⟨bb, o2, none⟩ = some y) (hb : Below w.heap.size w w') : w'.cell? ⟨bb, o1, none⟩ = some x ∧ w'.cell? ⟨bb, o2, none⟩ = some y :=
  ⟨(hb.cell (p := ⟨bb, o1, none⟩) (World.block_lt_of_cell? w _ h.1)).trans h.1, (hb.cell (p := ⟨bb, o2, none⟩) (World.block_lt_of_cell? w _ h.2)).trans h.2⟩
set_option maxHeartbeats 8000000 in
set_option maxRecDepth 100000 in
theorem walk (l : List Fr) (A : Option Addr) (n cap : Nat) (m i : Int) (w : World) (hl : FrSl w w.heap.size A l) (h63 : n ≤ maxLen) (hw : FrsWf l) (hn : Hid (n = l.length)) (hnc : n ≤ cap) :
    Calls Try.prog 10 #[.slice A n cap, .int .i64 m, .int .i64 i] w fun e w' => e = .returned (.bool true) ∧ Below w.heap.size w w' := by
  obtain ⟨i0, hi, hz, hz1, hz2⟩ := info_parts frInfo
  have T0 : Hid (TW w w A l) := ⟨hl, Below.refl _ _⟩
  clear hl
  cases hg : greatFrom 0 0 l with
  | true =>
    go_enter Try.func10, Try.ntmps10; go_wp2_with fail; refine (awake20_any _).mono ?_; rintro e w1 ⟨rfl, hb1⟩; have T1 := Lib.hid (T0.out.ext hb1); clear hb1; go_wp2_with fail; refine (great_v l A n cap w1 _ T1.out.sl hn h63 hw hg).mono ?_; rintro e w2 ⟨rfl, rfl⟩
    go_wp2
    go_ret
    exact ⟨rfl, T1.out.be⟩
  | false =>
    have hn200 : n ≤ 200 := by rw [hn.out]; exact great_le hg
    by_cases hc : chk l = 0
    · have HT := Lib.hid (And.intro hc (tree_of hc))
      have hn1 : 1 ≤ n := by rw [hn.out]; exact HT.out.2.ne
      obtain ⟨u, hu, hun⟩ := wrapmod m n hn1
      obtain ⟨v, hv, hvn⟩ := wrapmod i n hn1
      have f1 : IntKind.u64.wrap (n : Int) = (n : Int) := IntWalk.u64_in _ (by omega)
      have f2 : IntKind.i64.wrap (v : Int) = (v : Int) := IntWalk.i64_in _ (by omega)
      have f3 : IntKind.i64.wrap (u : Int) = (u : Int) := IntWalk.i64_in _ (by omega)
      have f4 : IntKind.i64.wrap (1 + (u : Int)) = ((u + 1 : Nat) : Int) := by rw [IntWalk.i64_in _ (by omega)]; omega
      have g2 : ((n : Int) == 0) = false := by simp; omega
      have g4 : ¬ (n : Int) = 0 := by omega
      have g5 : ¬ n = 0 := by omega
      have hvl : v < l.length := by rw [← hn.out]; exact hvn
      obtain ⟨ev, hev, hevE⟩ := end_spec hc hvl
      have hct := chk_take hc (n := u + 1) (by omega) (by rw [← hn.out]; omega)
      have hwt : FrsWf (l.take (u + 1)) := fun f hf => hw f (List.mem_of_mem_take hf)
      have xv := List.getElem?_eq_getElem hvl
      have hdv := dep_at xv
      have hup : upTo l (l[v]).depth v ev = belowL l v ev := by rw [← hdv]; rfl
      have hcb := chk_below hc hevE
      have e1 := hevE.lt
      have e2 := hevE.le
      rw [← hn.out] at e2
      have e3 : decide ((ev : Int) ≤ (v : Int)) = false := decide_eq_false (by omega)
      have e4 : decide ((n : Int) < (ev : Int)) = false := decide_eq_false (by omega)
      have e5 : decide (ev ≤ v) = false := decide_eq_false (by omega)
      have e6 : decide (n < ev) = false := decide_eq_false (by omega)
      have HP := Lib.hid (And.intro hev (And.intro hevE (And.intro hct (And.intro hwt (And.intro xv (And.intro hdv (And.intro hcb (And.intro e1 (And.intro e2 hup)))))))))
      have hsl : ∀ W, (Instr.slice 60 (.slice A n cap) none (some (.int .i64 ((u + 1 : Nat) : Int))) none).run Try.prog W = .ok (.slice A (u + 1) cap) W := fun W => by
        have := run_slice_hi (c := 8) Try.underlying60 (Option.isSome_iff_exists.1 (by kernel_rfl)) (by kernel_rfl) A n cap ((u + 1 : Nat) : Int) (by omega) (by omega) W
        simpa using this
      clear hev hevE hct hwt xv hdv hcb hup hc
      generalize l[v] = fv at *
      have hb0 : (0 : Int) ≤ (v : Int) := Int.natCast_nonneg _
      have hbv : (v : Int) < (n : Int) := by omega
      go_enter Try.func10, Try.ntmps10; go_wp2_with fail; refine (awake20_any _).mono ?_; rintro e w1 ⟨rfl, hb1⟩; have T1 := Lib.hid (T0.out.ext hb1); clear hb1; go_wp2_with fail; refine (great_v l A n cap w1 _ T1.out.sl hn h63 hw hg).mono ?_; rintro e w2 ⟨rfl, rfl⟩
      go_wp2_with fail
      refine (chk_v l A n cap w1 0 T1.out.sl hw hn HT.out.1).mono ?_; rintro e w3 ⟨rfl, hb3⟩
      have T3 := Lib.hid (T1.out.ext hb3)
      clear hb3 hg
      go_wp2_with fail
      refine (end_v l A n cap (v : Int) w3 (ev : Int) T3.out.sl hw hn h63 HP.out.1).mono ?_; rintro e w4 ⟨rfl, hb4⟩
      have T4 := Lib.hid (T3.out.ext hb4)
      clear hb4
      go_wp2_with fail
      refine (chk_v (l.take (u + 1)) A (u + 1) cap w4 0 (T4.out.sl.take (u + 1)) HP.out.2.2.2.1 (by rw [Hid, List.length_take, ← hn.out]; omega) HP.out.2.2.1).mono ?_; rintro e w5 ⟨rfl, hb5⟩
      have T5 := Lib.hid (T4.out.ext hb5)
      clear hb5
      clear f1 f2 f3 f4 g2 g4 g5 hv hu hsl
      go_wp2_with fail
      go_loopg [8, 9] (ev - v) (fun g vl vk wr => ∃ (k : Nat) (A2 : Option Addr) (n2 c2 : Nat), vk = .int .i64 (k : Int) ∧ vl = .slice A2 n2 c2 ∧ ev ≤ k + g ∧ v ≤ k ∧ k ≤ ev ∧ Hid (BlI w5 wr l fv.depth v k A2 n2 c2))
      case atStart =>
        refine ⟨v, none, 0, 0, rfl, rfl, by omega, by omega, by omega, ?_, Below.refl _ _, fun k hk => by cases hk⟩
        rw [show upTo l fv.depth v v = [] from by unfold upTo; rw [Nat.sub_self]; rfl]
        exact OwnA.nil_ _ _ _ _
      case round =>
        obtain ⟨k, A2, n2, c2, rfl, rfl, hgk, hvk, hke, hI⟩ := hrel
        have hTr := Lib.hid (T5.out.ext hI.out.be)
        obtain ⟨bb, off, rfl, hbb, hcell⟩ := hTr.out.sl (by intro h; have h1 := HT.out.2.ne; rw [h] at h1; simp at h1)
        have cv := hcell v _ HP.out.2.2.2.2.1 2 _ rfl
        by_cases hlt : k < ev
        · have hkl : k < l.length := by rw [← hn.out]; omega
          have xk := List.getElem?_eq_getElem hkl
          have c0 := hcell k _ xk 0 _ rfl
          have c1 := hcell k _ xk 1 _ rfl
          have c2' := hcell k _ xk 2 _ rfl
          have c3 := hcell k _ xk 3 _ rfl
          have c4 := hcell k _ xk 4 _ rfl
          have c5 := hcell k _ xk 5 _ rfl
          have c6 := hcell k _ xk 6 _ rfl
          have c7 := hcell k _ xk 7 _ rfl
          have hdd : dep l v = fv.depth := HP.out.2.2.2.2.2.1
          have hm1 := may_all ((chk_may HT.out.1).2.2 _ (List.mem_of_getElem? xk))
          have hm2 := may_all ((chk_may HT.out.1).2.2 _ (List.mem_of_getElem? HP.out.2.2.2.2.1))
          have HX := Lib.hid (And.intro xk hdd)
          simp only [Nat.add_zero] at c0
          have q1 := upTo_len l fv.depth v k
          rw [← hn.out] at q1
          clear hcell xk hdd
          generalize l[k] = fk at *
          have w1' : IntKind.i64.wrap (fk.depth - fv.depth) = fk.depth - fv.depth := IntWalk.i64_in _ (by omega)
          have h1 : Hid ((upTo l fv.depth v k).length + ([lift fv.depth fk] : List Fr).length ≤ maxLen) := by rw [Hid]; simp [maxLen]; omega
          have h2 : Hid (((upTo l fv.depth v k).length + ([lift fv.depth fk] : List Fr).length) * 72 ≤ 140737488355328) := by rw [Hid]; simp; omega
          have k1 : (0 : Int) ≤ (k : Int) := Int.natCast_nonneg _
          have k2 : (k : Int) < (n : Int) := by omega
          have k3 : (k : Int) < (ev : Int) := by omega
          have k4 : decide (k < ev) = true := decide_eq_true hlt
          have hbn : bb ≠ wr.heap.size := by omega
          clear hm1 hm2 q1
          go_wp2_with fail
          go_region
          go_wp2_with (at_builtin; refine wpList_append_a _ rfl _ _ _ rfl 65 i0 _ 8 72 Try.underlying60 hi hz hz1 hz2 rfl (by decide) Fr.cells_len Fr.cells_one _ (upTo l fv.depth v k) (by rfl) ((hI.out.own.ext ((by repeat (first | exact Below.refl _ _ | assumption | refine Below.drew ?_ | refine bdrewN ?_ _ | refine Below.alloc ?_ (by simp; try omega) _ | refine Below.setCell ?_ (by simp; try omega) _)))).alloc _) _ (some ⟨wr.heap.size + 1, 0, none⟩) [lift fv.depth fk] 1 1 (by rfl) rfl (lit_g (lift fv.depth fk) (by simp [World.setCell])) h1.out h2.out ?_; intro v' w9 hown' hchg hat; obtain ⟨A5, n5, c5, rfl, hn5, hle5, hmx5, hnil5⟩ := hown'.form; have HN := Lib.hid (hI.out.next HX.out.1 hvk ((by repeat (first | exact Below.refl _ _ | assumption | refine Below.drew ?_ | refine bdrewN ?_ _ | refine Below.alloc ?_ (by simp; try omega) _ | refine Below.setCell ?_ (by simp; try omega) _))) hown' hchg hat); clear hown' hchg hat)
          go_roundg (gk - 1)
          case measure => omega
          case rel => exact ⟨k + 1, A5, n5, c5, by go_num, rfl, by omega, by omega, by omega, HN⟩
        · have hke' : k = ev := by omega
          subst hke'
          have k3 : ¬ (k : Int) < (k : Int) := by omega
          have hT := Lib.hid (ext_under T5.out.be (Nat.le_refl _) hI.out.be)
          have hck : Hid (Calls Try.prog 41 #[.slice A2 n2 c2] wr.drew fun e w' => e = .returned (.int .i64 0) ∧ Below wr.drew.heap.size wr.drew w') :=
            by
              have ho := hI.out.own
              rw [HP.out.2.2.2.2.2.2.2.2.2] at ho
              exact chk_v (belowL l v k) A2 n2 c2 wr.drew 0 (Sl.drew (ho.sl Fr.cells_len)) (wf_chk HP.out.2.2.2.2.2.2.1) ho.len HP.out.2.2.2.2.2.2.1
          by_cases hen : k = n
          · have y1 : ((k : Int) == (n : Int)) = true := by rw [hen]; simp
            have y2 : (k == n) = true := by rw [hen]; simp
            have KK := And.intro cv cv
            clear hcell hen
            go_wp2_with fail
            refine wp_region_held_drew (S := fun w' => w'.cell? ⟨bb, off + v * 8 + 2, none⟩ = some (.int .i64 fv.depth) ∧ w'.cell? ⟨bb, off + v * 8 + 2, none⟩ = some (.int .i64 fv.depth)) (by kernel_rfl) ?_ (fun hHeld => ?_)
            · exact KK
            try simp only [Act.put, List.setIfInBounds_toArray, List.set_cons_zero, List.set_cons_succ]
            (refine wpAnyH_take (i := 0) (oi := { dst := some 77, op := _, type := _, pos := _, after := _, guard := _ }) (v := ?_) rfl (by kernel_rfl) (by kernel_rfl) (by kernel_rfl) (fun _ _ _ h => h) (Or.inl ⟨by kernel_rfl, (by intro w hSw; (try dsimp only at hSw); go_simp; try with_reducible rfl)⟩) (by assumption) ?_; (try simp only [Act.put, List.setIfInBounds_toArray, List.set_cons_zero, List.set_cons_succ]))
            (refine wpAnyH_ready (rs := [1]) (by kernel_rfl) (by simp) ?_; refine AllReadyH.cons (o := { dst := some 78, op := _, type := _, pos := _, after := _, guard := _ }) rfl (fun K hK => ?_) AllReadyH.nil; go_simp)
            refine hck.out.mono ?_; rintro e w6 ⟨rfl, hb6⟩
            refine hK.out _ _ (keep2 KK (undrew1 hb6)) (fun hHeld => ?_)
            try simp only [Act.put, List.setIfInBounds_toArray, List.set_cons_zero, List.set_cons_succ]
            clear hK K
            (refine wpAnyH_take (i := 2) (oi := { dst := some 79, op := _, type := _, pos := _, after := _, guard := _ }) (v := ?_) rfl (by kernel_rfl) (by kernel_rfl) (by kernel_rfl) (fun _ _ _ h => h) (Or.inl ⟨by kernel_rfl, (by intro w hSw; (try dsimp only at hSw); go_simp; try with_reducible rfl)⟩) (by assumption) ?_; (try simp only [Act.put, List.setIfInBounds_toArray, List.set_cons_zero, List.set_cons_succ]))
            (refine wpAnyH_take (i := 3) (oi := { dst := some 80, op := _, type := _, pos := _, after := _, guard := _ }) (v := ?_) rfl (by kernel_rfl) (by kernel_rfl) (by kernel_rfl) (fun _ _ _ h => h) (Or.inl ⟨by kernel_rfl, (by intro w hSw; (try dsimp only at hSw); go_simp; try with_reducible rfl)⟩) (by assumption) ?_; (try simp only [Act.put, List.setIfInBounds_toArray, List.set_cons_zero, List.set_cons_succ]))
            (refine wpAnyH_take (i := 4) (oi := { dst := some 81, op := _, type := _, pos := _, after := _, guard := _ }) (v := ?_) rfl (by kernel_rfl) (by kernel_rfl) (by kernel_rfl) (fun _ _ _ h => h) (Or.inl ⟨by kernel_rfl, (by intro w hSw; (try dsimp only at hSw); go_simp; try with_reducible rfl)⟩) (by assumption) ?_; (try simp only [Act.put, List.setIfInBounds_toArray, List.set_cons_zero, List.set_cons_succ]))
            (refine wpAnyH_take (i := 5) (oi := { dst := some 82, op := _, type := _, pos := _, after := _, guard := _ }) (v := ?_) rfl (by kernel_rfl) (by kernel_rfl) (by kernel_rfl) (fun _ _ _ h => h) (Or.inl ⟨by kernel_rfl, (by intro w hSw; (try dsimp only at hSw); go_simp; try with_reducible rfl)⟩) (by assumption) ?_; (try simp only [Act.put, List.setIfInBounds_toArray, List.set_cons_zero, List.set_cons_succ]))
            (refine wpAnyH_take (i := 6) (oi := { dst := some 83, op := _, type := _, pos := _, after := _, guard := _ }) (v := ?_) rfl (by kernel_rfl) (by kernel_rfl) (by kernel_rfl) (fun _ _ _ h => h) (Or.inl ⟨by kernel_rfl, (by intro w hSw; (try dsimp only at hSw); go_simp; try with_reducible rfl)⟩) (by assumption) ?_; (try simp only [Act.put, List.setIfInBounds_toArray, List.set_cons_zero, List.set_cons_succ]))
            (refine wpAnyH_take (i := 7) (oi := { dst := some 84, op := _, type := _, pos := _, after := _, guard := _ }) (v := ?_) rfl (by kernel_rfl) (by kernel_rfl) (by kernel_rfl) (fun _ _ _ h => h) (Or.inl ⟨by kernel_rfl, (by intro w hSw; (try dsimp only at hSw); go_simp; try with_reducible rfl)⟩) (by assumption) ?_; (try simp only [Act.put, List.setIfInBounds_toArray, List.set_cons_zero, List.set_cons_succ]))
            (refine wpAnyH_take (i := 8) (oi := { dst := some 85, op := _, type := _, pos := _, after := _, guard := _ }) (v := ?_) rfl (by kernel_rfl) (by kernel_rfl) (by kernel_rfl) (fun _ _ _ h => h) (Or.inl ⟨by kernel_rfl, (by intro w hSw; (try dsimp only at hSw); go_simp; try with_reducible rfl)⟩) (by assumption) ?_; (try simp only [Act.put, List.setIfInBounds_toArray, List.set_cons_zero, List.set_cons_succ]))
            (refine wpAnyH_take (i := 9) (oi := { dst := some 86, op := _, type := _, pos := _, after := _, guard := _ }) (v := undef) rfl (by kernel_rfl) (by kernel_rfl) (by kernel_rfl) (fun _ _ _ h => h) (Or.inr ⟨by kernel_rfl, rfl⟩) (by assumption) ?_; (try simp only [Act.put, List.setIfInBounds_toArray, List.set_cons_zero, List.set_cons_succ]))
            (refine wpAnyH_take (i := 10) (oi := { dst := some 87, op := _, type := _, pos := _, after := _, guard := _ }) (v := undef) rfl (by kernel_rfl) (by kernel_rfl) (by kernel_rfl) (fun _ _ _ h => h) (Or.inr ⟨by kernel_rfl, rfl⟩) (by assumption) ?_; (try simp only [Act.put, List.setIfInBounds_toArray, List.set_cons_zero, List.set_cons_succ]))
            (refine wpAnyH_take (i := 11) (oi := { dst := some 88, op := _, type := _, pos := _, after := _, guard := _ }) (v := undef) rfl (by kernel_rfl) (by kernel_rfl) (by kernel_rfl) (fun _ _ _ h => h) (Or.inr ⟨by kernel_rfl, rfl⟩) (by assumption) ?_; (try simp only [Act.put, List.setIfInBounds_toArray, List.set_cons_zero, List.set_cons_succ]))
            (refine wpAnyH_take (i := 12) (oi := { dst := some 89, op := _, type := _, pos := _, after := _, guard := _ }) (v := undef) rfl (by kernel_rfl) (by kernel_rfl) (by kernel_rfl) (fun _ _ _ h => h) (Or.inr ⟨by kernel_rfl, rfl⟩) (by assumption) ?_; (try simp only [Act.put, List.setIfInBounds_toArray, List.set_cons_zero, List.set_cons_succ]))
            (refine wpAnyH_take (i := 13) (oi := { dst := some 90, op := _, type := _, pos := _, after := _, guard := _ }) (v := undef) rfl (by kernel_rfl) (by kernel_rfl) (by kernel_rfl) (fun _ _ _ h => h) (Or.inr ⟨by kernel_rfl, rfl⟩) (by assumption) ?_; (try simp only [Act.put, List.setIfInBounds_toArray, List.set_cons_zero, List.set_cons_succ]))
            (refine wpAnyH_take (i := 14) (oi := { dst := some 91, op := _, type := _, pos := _, after := _, guard := _ }) (v := undef) rfl (by kernel_rfl) (by kernel_rfl) (by kernel_rfl) (fun _ _ _ h => h) (Or.inr ⟨by kernel_rfl, rfl⟩) (by assumption) ?_; (try simp only [Act.put, List.setIfInBounds_toArray, List.set_cons_zero, List.set_cons_succ]))
            (refine wpAnyH_take (i := 15) (oi := { dst := some 92, op := _, type := _, pos := _, after := _, guard := _ }) (v := undef) rfl (by kernel_rfl) (by kernel_rfl) (by kernel_rfl) (fun _ _ _ h => h) (Or.inr ⟨by kernel_rfl, rfl⟩) (by assumption) ?_; (try simp only [Act.put, List.setIfInBounds_toArray, List.set_cons_zero, List.set_cons_succ]))
            (refine wpAnyH_take (i := 16) (oi := { dst := some 93, op := _, type := _, pos := _, after := _, guard := _ }) (v := undef) rfl (by kernel_rfl) (by kernel_rfl) (by kernel_rfl) (fun _ _ _ h => h) (Or.inr ⟨by kernel_rfl, rfl⟩) (by assumption) ?_; (try simp only [Act.put, List.setIfInBounds_toArray, List.set_cons_zero, List.set_cons_succ]))
            (refine wpAnyH_take (i := 17) (oi := { dst := some 94, op := _, type := _, pos := _, after := _, guard := _ }) (v := undef) rfl (by kernel_rfl) (by kernel_rfl) (by kernel_rfl) (fun _ _ _ h => h) (Or.inr ⟨by kernel_rfl, rfl⟩) (by assumption) ?_; (try simp only [Act.put, List.setIfInBounds_toArray, List.set_cons_zero, List.set_cons_succ]))
            (refine wpAnyH_take (i := 18) (oi := { dst := some 95, op := _, type := _, pos := _, after := _, guard := _ }) (v := undef) rfl (by kernel_rfl) (by kernel_rfl) (by kernel_rfl) (fun _ _ _ h => h) (Or.inr ⟨by kernel_rfl, rfl⟩) (by assumption) ?_; (try simp only [Act.put, List.setIfInBounds_toArray, List.set_cons_zero, List.set_cons_succ]))
            (refine wpAnyH_take (i := 19) (oi := { dst := some 96, op := _, type := _, pos := _, after := _, guard := _ }) (v := undef) rfl (by kernel_rfl) (by kernel_rfl) (by kernel_rfl) (fun _ _ _ h => h) (Or.inr ⟨by kernel_rfl, rfl⟩) (by assumption) ?_; (try simp only [Act.put, List.setIfInBounds_toArray, List.set_cons_zero, List.set_cons_succ]))
            (refine wpAnyH_take (i := 20) (oi := { dst := some 97, op := _, type := _, pos := _, after := _, guard := _ }) (v := ?_) rfl (by kernel_rfl) (by kernel_rfl) (by kernel_rfl) (fun _ _ _ h => h) (Or.inl ⟨by kernel_rfl, (by intro w hSw; (try dsimp only at hSw); go_simp; try with_reducible rfl)⟩) (by assumption) ?_; (try simp only [Act.put, List.setIfInBounds_toArray, List.set_cons_zero, List.set_cons_succ]))
            (refine wpAnyH_take (i := 21) (oi := { dst := some 98, op := _, type := _, pos := _, after := _, guard := _ }) (v := ?_) rfl (by kernel_rfl) (by kernel_rfl) (by kernel_rfl) (fun _ _ _ h => h) (Or.inl ⟨by kernel_rfl, (by intro w hSw; (try dsimp only at hSw); go_simp; try with_reducible rfl)⟩) (by assumption) ?_; (try simp only [Act.put, List.setIfInBounds_toArray, List.set_cons_zero, List.set_cons_succ]))
            (refine wpAnyH_take (i := 22) (oi := { dst := some 6, op := _, type := _, pos := _, after := _, guard := _ }) (v := ?_) rfl (by kernel_rfl) (by kernel_rfl) (by kernel_rfl) (fun _ _ _ h => h) (Or.inl ⟨by kernel_rfl, (by intro w hSw; (try dsimp only at hSw); go_simp; try with_reducible rfl)⟩) (by assumption) ?_; (try simp only [Act.put, List.setIfInBounds_toArray, List.set_cons_zero, List.set_cons_succ]))
            refine wpAnyH_done (by kernel_rfl) ?_ _
            go_wp2
            go_ret
            exact ⟨rfl, ext_under hT.out (Nat.le_refl _) (undrew1 hb6)⟩
          · have y1 : ((k : Int) == (n : Int)) = false := by simp; omega
            have y2 : (k == n) = false := by simpa using hen
            have hkl : k < l.length := by rw [← hn.out]; omega
            have xk := List.getElem?_eq_getElem hkl
            have ck := hcell k _ xk 2 _ rfl
            have hst := HP.out.2.1.stop hkl
            rw [HP.out.2.2.2.2.2.1, dep_at xk] at hst
            clear hcell xk
            generalize l[k] = fk at *
            have y3 : decide (fk.depth ≤ fv.depth) = true := decide_eq_true hst
            have k1 : (0 : Int) ≤ (k : Int) := Int.natCast_nonneg _
            have k2 : (k : Int) < (n : Int) := by omega
            have KK := And.intro ck cv
            go_wp2_with fail
            refine wp_region_held_drew (S := fun w' => w'.cell? ⟨bb, off + k * 8 + 2, none⟩ = some (.int .i64 fk.depth) ∧ w'.cell? ⟨bb, off + v * 8 + 2, none⟩ = some (.int .i64 fv.depth)) (by kernel_rfl) ?_ (fun hHeld => ?_)
            · exact KK
            try simp only [Act.put, List.setIfInBounds_toArray, List.set_cons_zero, List.set_cons_succ]
            (refine wpAnyH_take (i := 0) (oi := { dst := some 77, op := _, type := _, pos := _, after := _, guard := _ }) (v := ?_) rfl (by kernel_rfl) (by kernel_rfl) (by kernel_rfl) (fun _ _ _ h => h) (Or.inl ⟨by kernel_rfl, (by intro w hSw; (try dsimp only at hSw); go_simp; try with_reducible rfl)⟩) (by assumption) ?_; (try simp only [Act.put, List.setIfInBounds_toArray, List.set_cons_zero, List.set_cons_succ]))
            (refine wpAnyH_ready (rs := [1]) (by kernel_rfl) (by simp) ?_; refine AllReadyH.cons (o := { dst := some 78, op := _, type := _, pos := _, after := _, guard := _ }) rfl (fun K hK => ?_) AllReadyH.nil; go_simp)
            refine hck.out.mono ?_; rintro e w6 ⟨rfl, hb6⟩
            refine hK.out _ _ (keep2 KK (undrew1 hb6)) (fun hHeld => ?_)
            try simp only [Act.put, List.setIfInBounds_toArray, List.set_cons_zero, List.set_cons_succ]
            clear hK K
            (refine wpAnyH_take (i := 2) (oi := { dst := some 79, op := _, type := _, pos := _, after := _, guard := _ }) (v := ?_) rfl (by kernel_rfl) (by kernel_rfl) (by kernel_rfl) (fun _ _ _ h => h) (Or.inl ⟨by kernel_rfl, (by intro w hSw; (try dsimp only at hSw); go_simp; try with_reducible rfl)⟩) (by assumption) ?_; (try simp only [Act.put, List.setIfInBounds_toArray, List.set_cons_zero, List.set_cons_succ]))
            (refine wpAnyH_take (i := 3) (oi := { dst := some 80, op := _, type := _, pos := _, after := _, guard := _ }) (v := ?_) rfl (by kernel_rfl) (by kernel_rfl) (by kernel_rfl) (fun _ _ _ h => h) (Or.inl ⟨by kernel_rfl, (by intro w hSw; (try dsimp only at hSw); go_simp; try with_reducible rfl)⟩) (by assumption) ?_; (try simp only [Act.put, List.setIfInBounds_toArray, List.set_cons_zero, List.set_cons_succ]))
            (refine wpAnyH_take (i := 4) (oi := { dst := some 81, op := _, type := _, pos := _, after := _, guard := _ }) (v := ?_) rfl (by kernel_rfl) (by kernel_rfl) (by kernel_rfl) (fun _ _ _ h => h) (Or.inl ⟨by kernel_rfl, (by intro w hSw; (try dsimp only at hSw); go_simp; try with_reducible rfl)⟩) (by assumption) ?_; (try simp only [Act.put, List.setIfInBounds_toArray, List.set_cons_zero, List.set_cons_succ]))
            (refine wpAnyH_take (i := 5) (oi := { dst := some 82, op := _, type := _, pos := _, after := _, guard := _ }) (v := ?_) rfl (by kernel_rfl) (by kernel_rfl) (by kernel_rfl) (fun _ _ _ h => h) (Or.inl ⟨by kernel_rfl, (by intro w hSw; (try dsimp only at hSw); go_simp; try with_reducible rfl)⟩) (by assumption) ?_; (try simp only [Act.put, List.setIfInBounds_toArray, List.set_cons_zero, List.set_cons_succ]))
            (refine wpAnyH_take (i := 6) (oi := { dst := some 83, op := _, type := _, pos := _, after := _, guard := _ }) (v := ?_) rfl (by kernel_rfl) (by kernel_rfl) (by kernel_rfl) (fun _ _ _ h => h) (Or.inl ⟨by kernel_rfl, (by intro w hSw; (try dsimp only at hSw); go_simp; try with_reducible rfl)⟩) (by assumption) ?_; (try simp only [Act.put, List.setIfInBounds_toArray, List.set_cons_zero, List.set_cons_succ]))
            (refine wpAnyH_take (i := 7) (oi := { dst := some 84, op := _, type := _, pos := _, after := _, guard := _ }) (v := ?_) rfl (by kernel_rfl) (by kernel_rfl) (by kernel_rfl) (fun _ _ _ h => h) (Or.inl ⟨by kernel_rfl, (by intro w hSw; (try dsimp only at hSw); go_simp; try with_reducible rfl)⟩) (by assumption) ?_; (try simp only [Act.put, List.setIfInBounds_toArray, List.set_cons_zero, List.set_cons_succ]))
            (refine wpAnyH_take (i := 8) (oi := { dst := some 85, op := _, type := _, pos := _, after := _, guard := _ }) (v := ?_) rfl (by kernel_rfl) (by kernel_rfl) (by kernel_rfl) (fun _ _ _ h => h) (Or.inl ⟨by kernel_rfl, (by intro w hSw; (try dsimp only at hSw); go_simp; try with_reducible rfl)⟩) (by assumption) ?_; (try simp only [Act.put, List.setIfInBounds_toArray, List.set_cons_zero, List.set_cons_succ]))
            (refine wpAnyH_take (i := 9) (oi := { dst := some 86, op := _, type := _, pos := _, after := _, guard := _ }) (v := ?_) rfl (by kernel_rfl) (by kernel_rfl) (by kernel_rfl) (fun _ _ _ h => h) (Or.inl ⟨by kernel_rfl, (by intro w hSw; (try dsimp only at hSw); go_simp; try with_reducible rfl)⟩) (by assumption) ?_; (try simp only [Act.put, List.setIfInBounds_toArray, List.set_cons_zero, List.set_cons_succ]))
            (refine wpAnyH_take (i := 10) (oi := { dst := some 87, op := _, type := _, pos := _, after := _, guard := _ }) (v := ?_) rfl (by kernel_rfl) (by kernel_rfl) (by kernel_rfl) (fun _ _ _ h => h) (Or.inl ⟨by kernel_rfl, (by intro w hSw; (try dsimp only at hSw); go_simp; try with_reducible rfl)⟩) (by assumption) ?_; (try simp only [Act.put, List.setIfInBounds_toArray, List.set_cons_zero, List.set_cons_succ]))
            (refine wpAnyH_take (i := 11) (oi := { dst := some 88, op := _, type := _, pos := _, after := _, guard := _ }) (v := ?_) rfl (by kernel_rfl) (by kernel_rfl) (by kernel_rfl) (fun _ _ _ h => h) (Or.inl ⟨by kernel_rfl, (by intro w hSw; (try dsimp only at hSw); go_simp; try with_reducible rfl)⟩) (by assumption) ?_; (try simp only [Act.put, List.setIfInBounds_toArray, List.set_cons_zero, List.set_cons_succ]))
            (refine wpAnyH_take (i := 12) (oi := { dst := some 89, op := _, type := _, pos := _, after := _, guard := _ }) (v := ?_) rfl (by kernel_rfl) (by kernel_rfl) (by kernel_rfl) (fun _ _ _ h => h) (Or.inl ⟨by kernel_rfl, (by intro w hSw; (try dsimp only at hSw); go_simp; try with_reducible rfl)⟩) (by assumption) ?_; (try simp only [Act.put, List.setIfInBounds_toArray, List.set_cons_zero, List.set_cons_succ]))
            (refine wpAnyH_take (i := 13) (oi := { dst := some 90, op := _, type := _, pos := _, after := _, guard := _ }) (v := ?_) rfl (by kernel_rfl) (by kernel_rfl) (by kernel_rfl) (fun _ _ _ h => h) (Or.inl ⟨by kernel_rfl, (by intro w hSw; (try dsimp only at hSw); go_simp; try with_reducible rfl)⟩) (by assumption) ?_; (try simp only [Act.put, List.setIfInBounds_toArray, List.set_cons_zero, List.set_cons_succ]))
            (refine wpAnyH_take (i := 14) (oi := { dst := some 91, op := _, type := _, pos := _, after := _, guard := _ }) (v := ?_) rfl (by kernel_rfl) (by kernel_rfl) (by kernel_rfl) (fun _ _ _ h => h) (Or.inl ⟨by kernel_rfl, (by intro w hSw; (try dsimp only at hSw); go_simp; try with_reducible rfl)⟩) (by assumption) ?_; (try simp only [Act.put, List.setIfInBounds_toArray, List.set_cons_zero, List.set_cons_succ]))
            (refine wpAnyH_take (i := 15) (oi := { dst := some 92, op := _, type := _, pos := _, after := _, guard := _ }) (v := ?_) rfl (by kernel_rfl) (by kernel_rfl) (by kernel_rfl) (fun _ _ _ h => h) (Or.inl ⟨by kernel_rfl, (by intro w hSw; (try dsimp only at hSw); go_simp; try with_reducible rfl)⟩) (by assumption) ?_; (try simp only [Act.put, List.setIfInBounds_toArray, List.set_cons_zero, List.set_cons_succ]))
            (refine wpAnyH_take (i := 16) (oi := { dst := some 93, op := _, type := _, pos := _, after := _, guard := _ }) (v := ?_) rfl (by kernel_rfl) (by kernel_rfl) (by kernel_rfl) (fun _ _ _ h => h) (Or.inl ⟨by kernel_rfl, (by intro w hSw; (try dsimp only at hSw); go_simp; try with_reducible rfl)⟩) (by assumption) ?_; (try simp only [Act.put, List.setIfInBounds_toArray, List.set_cons_zero, List.set_cons_succ]))
            (refine wpAnyH_take (i := 17) (oi := { dst := some 94, op := _, type := _, pos := _, after := _, guard := _ }) (v := ?_) rfl (by kernel_rfl) (by kernel_rfl) (by kernel_rfl) (fun _ _ _ h => h) (Or.inl ⟨by kernel_rfl, (by intro w hSw; (try dsimp only at hSw); go_simp; try with_reducible rfl)⟩) (by assumption) ?_; (try simp only [Act.put, List.setIfInBounds_toArray, List.set_cons_zero, List.set_cons_succ]))
            (refine wpAnyH_take (i := 18) (oi := { dst := some 95, op := _, type := _, pos := _, after := _, guard := _ }) (v := ?_) rfl (by kernel_rfl) (by kernel_rfl) (by kernel_rfl) (fun _ _ _ h => h) (Or.inl ⟨by kernel_rfl, (by intro w hSw; (try dsimp only at hSw); go_simp; try with_reducible rfl)⟩) (by assumption) ?_; (try simp only [Act.put, List.setIfInBounds_toArray, List.set_cons_zero, List.set_cons_succ]))
            (refine wpAnyH_take (i := 19) (oi := { dst := some 96, op := _, type := _, pos := _, after := _, guard := _ }) (v := ?_) rfl (by kernel_rfl) (by kernel_rfl) (by kernel_rfl) (fun _ _ _ h => h) (Or.inl ⟨by kernel_rfl, (by intro w hSw; (try dsimp only at hSw); go_simp; try with_reducible rfl)⟩) (by assumption) ?_; (try simp only [Act.put, List.setIfInBounds_toArray, List.set_cons_zero, List.set_cons_succ]))
            (refine wpAnyH_take (i := 20) (oi := { dst := some 97, op := _, type := _, pos := _, after := _, guard := _ }) (v := ?_) rfl (by kernel_rfl) (by kernel_rfl) (by kernel_rfl) (fun _ _ _ h => h) (Or.inl ⟨by kernel_rfl, (by intro w hSw; (try dsimp only at hSw); go_simp; try with_reducible rfl)⟩) (by assumption) ?_; (try simp only [Act.put, List.setIfInBounds_toArray, List.set_cons_zero, List.set_cons_succ]))
            (refine wpAnyH_take (i := 21) (oi := { dst := some 98, op := _, type := _, pos := _, after := _, guard := _ }) (v := ?_) rfl (by kernel_rfl) (by kernel_rfl) (by kernel_rfl) (fun _ _ _ h => h) (Or.inl ⟨by kernel_rfl, (by intro w hSw; (try dsimp only at hSw); go_simp; try with_reducible rfl)⟩) (by assumption) ?_; (try simp only [Act.put, List.setIfInBounds_toArray, List.set_cons_zero, List.set_cons_succ]))
            (refine wpAnyH_take (i := 22) (oi := { dst := some 6, op := _, type := _, pos := _, after := _, guard := _ }) (v := ?_) rfl (by kernel_rfl) (by kernel_rfl) (by kernel_rfl) (fun _ _ _ h => h) (Or.inl ⟨by kernel_rfl, (by intro w hSw; (try dsimp only at hSw); go_simp; try with_reducible rfl)⟩) (by assumption) ?_; (try simp only [Act.put, List.setIfInBounds_toArray, List.set_cons_zero, List.set_cons_succ]))
            refine wpAnyH_done (by kernel_rfl) ?_ _
            go_wp2
            go_ret
            exact ⟨rfl, ext_under hT.out (Nat.le_refl _) (undrew1 hb6)⟩
    · have hne : (chk l != 0) = true := by simpa using hc
      have hck := Lib.hid fun W (h : TW w W A l) => check_any l A n cap W h.sl hw hn
      generalize chk l = cz at *
      go_enter Try.func10, Try.ntmps10; go_wp2_with fail; refine (awake20_any _).mono ?_; rintro e w1 ⟨rfl, hb1⟩; have T1 := Lib.hid (T0.out.ext hb1); clear hb1; go_wp2_with fail; refine (great_v l A n cap w1 _ T1.out.sl hn h63 hw hg).mono ?_; rintro e w2 ⟨rfl, rfl⟩
      go_wp2_with fail
      refine (hck.out w1 T1.out).mono ?_; rintro e w3 ⟨rfl, hb3⟩
      go_wp2
      go_ret
      exact ⟨rfl, ext_under T1.out.be (Nat.le_refl _) hb3⟩
set_option maxRecDepth 100000 in
theorem lifted (os : Os) (started : os.Started) (H : Type) (enc : TypeId × Value → H) :
    ReturnsInHanded {} Try.checked os 10 .any (Rows.fragFirstSpec.pre6 enc Try.prog Try.f10 Rows.fragFirstRow.domain false) (Rows.fragFirstSpec.post enc Try.prog Try.f10 false true false false) := by
  refine returnsInHanded_of_change_sized (C := Try.checked) own started (by kernel_rfl) Try.func10
    (ChangeSpec.witness6 (enc := enc) (C := Try.checked) false ⟨#[], #[.slice none 0 0, .int .i64 0, .int .i64 0], []⟩ 8 (by kernel_rfl) (by kernel_rfl) (by kernel_rfl) (by kernel_rfl)) ?_
  intro W base args ds gs before hval0 hW hcnd hsz0 _
  have hval : ∀ (j : Nat) t v, Try.f10.params[j]? = some t → args[j]? = some v → Value.okWide Try.prog W .any base t v := hval0
  have hW' := hW
  obtain ⟨p, q, hA0, hV, rfl, hfz, hnd⟩ := hW
  have hA : DataW.TrodAll enc Try.prog W 0 (fun _ => true) true Try.f10.params.toList args.toList ds p := hA0
  have hsz : (DataW.weightsEach Try.prog (Try.f10.params.toList ++ []) (ds ++ gs)).all (· ≤ reachBytes) = true := hsz0
  rw [Try.params10] at hA hval hsz
  have hAll := hA
  obtain ⟨v0, vs0, d0, ds0, p0, q0, hargs, rfl, rfl, h0, r0⟩ := trodAll_cons hA
  obtain ⟨v1, vs1, d1, ds1, p1, q1, rfl, rfl, rfl, h1, r1⟩ := trodAll_cons r0
  obtain ⟨v2, vs2, d2, ds2, p2, q2, rfl, rfl, rfl, h2, r2⟩ := trodAll_cons r1
  obtain ⟨rfl, rfl, rfl⟩ := trodAll_nil r2
  obtain rfl : args = #[v0, v1, v2] := by cases args; simp_all
  obtain ⟨rfl, rfl⟩ := trodVars_none hV
  obtain ⟨l_A, l, l_cap, rfl, l_sl, l_ok, l_le, l_max, l_reach, l_nil⟩ := open_sl Try.underlying60 (c := 8) (by kernel_rfl) (by decide) opens_fr (hval 0 60 v0 rfl rfl) h0 (light_of hsz (j := 0) rfl rfl)
  obtain ⟨m, rfl, _, _, m_wf⟩ := open_int Try.underlying3 (hval 1 3 v1 rfl rfl) h1
  obtain ⟨i, rfl, _, _, i_wf⟩ := open_int Try.underlying3 (hval 2 3 v2 rfl rfl) h2
  refine (walk l l_A l.length l_cap m i W l_sl (Nat.le_trans l_le l_max) l_ok rfl l_le).mono fun e W' ⟨he, bel⟩ => ?_
  subst he
  exact ⟨_, rfl, _, _, _, [], _, [], hW', trodAll_mk1 (shut_bool Try.underlying4 _), keep_args laidOut bel (by kernel_rfl) hAll, rfl, bel.frame _, fun h => by cases h⟩

theorem over : Rows.fragFirstRow.holds Try.pinned (OpenSpec.ofChange Rows.fragFirstSpec) :=
  OpenClaim.holds_of_wide 10 Try.f10 rfl rfl rfl rfl rfl rfl rfl ⟨rfl, rfl, rfl, rfl, rfl⟩ rfl rfl rfl rfl rfl (by kernel_rfl) Try.func10 (by kernel_rfl)
    (of_decide_eq_true (by kernel_rfl)) (by unfold Func.isWrapper; first | (rw [if_pos (by decide +kernel)]; kernel_rfl) | (rw [if_neg (by decide +kernel)]; exact ⟨rfl, rfl⟩))
    (fun os started H enc _ => lifted os started H enc)

theorem proved : Rows.FragFirstSaid := over
#print axioms proved
end Go.Proofs.Ytoneechcclndaaa.lawFirst
