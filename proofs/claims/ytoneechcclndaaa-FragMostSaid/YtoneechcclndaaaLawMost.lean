/- FragMost: just 2048 fragments may be a tree; of texts that are too long together there is no form: whatever the input, the law returns true. -/
import Derived.Test.YtoneechcclndaaaLawFBk
import Derived.Outline
import Derived.BigQuiet
import Derived.Deep.QuietTactic
import Derived.Deep.RegionWith
import Derived.Deep.RegionHeld3
import Derived.Deep.DrawnRows
import Derived.Deep.LoopGhost
import Derived.Deep.DeepCutAuto
import Derived.Laws.EntriesVeiled
namespace Go.Proofs.Ytoneechcclndaaa.lawMost
open Go.RowKit Go.ChangeShapes Go.WideShapes Go.ChangeAt
set_option linter.unusedVariables false
set_option linter.unusedSimpArgs false
attribute [local go_sem ↓] Go.wp_at_zero Go.wp_at_succ
open Go.Shelf FragA FragB MayA Tree FCheck FTr FForm Wire Word lawFBk

theorem most_wf {N : Nat} {T : ByteArray} (hN : N ≤ 2050) (hT : T.size ≤ 257) : FrsWf (mostL N T) := fun f hf => by
  unfold mostL at hf
  obtain ⟨i, hi, rfl⟩ := List.mem_map.1 hf
  have := List.mem_range.1 hi
  have h0 : (Lit.int .i64 0).wf = true := by decide
  have h1 : (Lit.int .i64 1).wf = true := by decide
  refine ⟨lit_i64' (by simp only [mostF]; omega) (by simp only [mostF]; omega), h0, ?_, h0, h0, h0, h0, by simp only [mostF]; omega⟩
  simp only [mostF]
  split
  · exact h0
  · exact h1
theorem lit_g {W : World} {g : Nat} (f : Fr) (hg : W.heap.size = g) : Sl (W.alloc (.cells #[.int .i64 f.node, .int .i64 f.part, .int .i64 f.depth, .int .i64 f.x, .int .i64 f.y, .int .i64 f.w, .int .i64 f.h, .string f.text] 65)) (W.alloc (.cells #[.int .i64 f.node, .int .i64 f.part, .int .i64 f.depth, .int .i64 f.x, .int .i64 f.y, .int .i64 f.w, .int .i64 f.h, .string f.text] 65)).heap.size 8 Fr.cells (some ⟨g, 0, none⟩) [f] := by
  subst hg; exact lit_list W [f] 65 Fr.cells_len
/-- how far the rows have been put together -/
structure MoI (w wr : World) (T : ByteArray) (j : Nat) (A : Option Addr) (n c : Nat) : Prop where
  own : OwnA wr 65 8 Fr.cells (.slice A n c) (mostL j T)
  be : Below w.heap.size w wr
  fr : ∀ k, (Value.slice A n c).ownBlock = some k → w.heap.size ≤ k
theorem MoI.next {w wr w8 w9 : World} {T : ByteArray} {j : Nat} {A A' : Option Addr} {n c n' c' : Nat} (h : MoI w wr T j A n c) (hb : Below wr.heap.size wr w8)
    (hown : OwnA w9 65 8 Fr.cells (.slice A' n' c') (mostL j T ++ [mostF T j])) (hc : Chg (fun k => (Value.slice A n c).ownBlock = some k) w8 w9)
    (hat : (Value.slice A' n' c').ownBlock = (Value.slice A n c).ownBlock ∨ (Value.slice A' n' c').ownBlock = some w8.heap.size) : MoI w w9 T (j + 1) A' n' c' := by
  have hbo := ext_under h.be (Nat.le_refl _) hb
  rw [← mostL_next] at hown
  refine ⟨hown, hbo.trans (hc.below hbo.size fun i hi hs => by have := h.fr _ hs; omega), fun k hk => ?_⟩
  rcases hat with hat | hat
  · exact h.fr k (hat ▸ hk)
  · rw [hat] at hk; injection hk with hk; have := hbo.size; omega
theorem made_bytes {w6 : World} {base g t : Nat} (h : w6.ownsRow base 5 1 (.slice (some ⟨g, 0, none⟩) t t) t (madeCells (Value.int .u8 0).cells (t * 1)).toList) : BySl w6 w6.heap.size (some ⟨g, 0, none⟩) (List.replicate t 0) := by
  have e := made_flat encB_len (by decide) (0 : UInt8) (.int .u8 0) (by rfl) t
  have h2 : Own w6 base 5 1 encB (.slice (some ⟨g, 0, none⟩) t t) (List.replicate t 0) := by
    unfold Own
    rw [List.length_replicate, ← e]
    exact h
  exact h2.sls encB_len
theorem bal {a w : World} (h : Below a.heap.size a w) (o : Obj) : Below a.heap.size a (w.alloc o) := h.alloc h.size _
set_option maxHeartbeats 8000000 in
set_option maxRecDepth 100000 in
theorem walk (mo z : Int) (w : World) : Calls Try.prog 14 #[.int .i64 mo, .int .i64 z] w fun e w' => e = .returned (.bool true) ∧ Below w.heap.size w w' := by
  by_cases hm1 : mo < -2
  · have d1 : decide (mo < -2) = true := decide_eq_true hm1
    go_enter Try.func14, Try.ntmps14; go_wp2; go_ret; exact ⟨rfl, Below.refl _ _⟩
  have d1 : decide (mo < -2) = false := decide_eq_false hm1
  by_cases hm2 : 2 < mo
  · have d2 : decide (2 < mo) = true := decide_eq_true hm2
    go_enter Try.func14, Try.ntmps14; go_wp2; go_ret; exact ⟨rfl, Below.refl _ _⟩
  have d2 : decide (2 < mo) = false := decide_eq_false hm2
  by_cases hz1 : z < 0
  · have d3 : decide (z < 0) = true := decide_eq_true hz1
    go_enter Try.func14, Try.ntmps14; go_wp2; go_ret; exact ⟨rfl, Below.refl _ _⟩
  have d3 : decide (z < 0) = false := decide_eq_false hz1
  by_cases hz2 : 257 < z
  · have d4 : decide (257 < z) = true := decide_eq_true hz2
    go_enter Try.func14, Try.ntmps14; go_wp2; go_ret; exact ⟨rfl, Below.refl _ _⟩
  have d4 : decide (257 < z) = false := decide_eq_false hz2
  obtain ⟨t, rfl⟩ : ∃ t : Nat, z = (t : Int) := ⟨z.toNat, by omega⟩
  obtain ⟨N, hN⟩ : ∃ N : Nat, (N : Int) = 2048 + mo := ⟨(2048 + mo).toNat, by omega⟩
  have HN0 := Lib.hid hN
  have hNb : Hid (2046 ≤ N ∧ N ≤ 2050) := ⟨by omega, by omega⟩
  have ht : t ≤ 257 := by omega
  have hmo1 : -2 ≤ mo := by omega
  have hmo2 : mo ≤ 2 := by omega
  clear hN hm1 hm2 hz1 hz2
  obtain ⟨T, hT0⟩ : ∃ T : ByteArray, T = ⟨(List.replicate t 0).toArray⟩ := ⟨_, rfl⟩
  have hT := Lib.hid hT0
  have hTs : Hid (T.size = t) := by rw [Hid, hT0]; show (List.replicate t (0 : UInt8)).toArray.size = t; simp
  clear hT0
  obtain ⟨i0, hi, hz0, hz1, hz2⟩ := info_parts frInfo
  obtain ⟨b0, hbi, hb0, hb1', hb2⟩ := info_parts byInfo
  go_enter Try.func14, Try.ntmps14
  go_wp2
  go_loopg [5, 6] N (fun gk v5 v6 wr => ∃ (j : Nat) (A2 : Option Addr) (n2 c2 : Nat), v5 = .slice A2 n2 c2 ∧ v6 = .int .i64 (j : Int) ∧ N ≤ j + gk ∧ j ≤ N ∧ Hid (MoI w wr T j A2 n2 c2))
  case atStart => exact ⟨0, none, 0, 0, rfl, rfl, by omega, by omega, OwnA.nil_ _ _ _ _, Below.refl _ _, fun k hk => by cases hk⟩
  case round =>
    obtain ⟨j, A2, n2, c2, rfl, rfl, hgk, hjN, hI⟩ := hrel
    have hjb : j ≤ 2050 := by have := hNb.out; omega
    by_cases hlt : j < N
    · have e1 : decide ((j : Int) < 2048 + mo) = true := decide_eq_true (by have := HN0.out; omega)
      have h1 : Hid ((mostL j T).length + [mostF T j].length ≤ maxLen) := by rw [Hid, mostL_len]; simp [maxLen]; omega
      have h2 : Hid (((mostL j T).length + [mostF T j].length) * 72 ≤ 140737488355328) := by rw [Hid, mostL_len]; simp; omega
      by_cases hj0 : j = 0
      · have HFF : Hid (mostF T j = ⟨(j : Int), 0, 0, 0, 0, 0, 0, T⟩) := by rw [Hid, mostF, if_pos hj0]
        have e2 : ((j : Int) == 0) = true := by rw [hj0]; rfl
        have e3 : (j == 0) = true := by rw [hj0]; rfl
        clear hj0
        go_wp2_with (first | (at_make; refine wpList_make_full _ rfl _ _ 25 rfl w.heap.size 5 b0 _ 1 Try.underlying25 hbi hb0 hb1' _ _ _ _ t rfl rfl (by rfl) (by rfl) (by rw [hb2]; omega) (by unfold maxLen; omega) hI.out.be.size ?_; intro w6 hmk hgr; have hb6 : Below wr.heap.size wr w6 := (Below.refl _ _).grown hgr (Nat.le_refl _) (by simp); have hs6 := hb6.size; have hcw := conv_str (List.replicate t 0) (some ⟨wr.heap.size, 0, none⟩) t t _ w6 (made_bytes hmk) (by simp); rw [← hT.out] at hcw; clear hmk hgr) | (at_builtin; refine wpList_append_a _ rfl _ _ _ rfl 65 i0 _ 8 72 Try.underlying60 hi hz0 hz1 hz2 rfl (by decide) Fr.cells_len Fr.cells_one _ (mostL j T) (by rfl) ((hI.out.own.ext ((by repeat (first | exact Below.refl _ _ | assumption | refine Below.drew ?_ | refine bal ?_ _)))).alloc _) _ (some ⟨w6.heap.size + 1, 0, none⟩) [(⟨(j : Int), 0, 0, 0, 0, 0, 0, T⟩ : Fr)] 1 1 (by rfl) rfl (lit_g (⟨(j : Int), 0, 0, 0, 0, 0, 0, T⟩ : Fr) (by simp [World.setCell])) h1.out h2.out ?_; intro v' w9 hown' hchg hat; obtain ⟨A5, n5, c5, rfl, hn5, hle5, hmx5, hnil5⟩ := hown'.form; rw [← HFF.out] at hown'; have HN := Lib.hid (hI.out.next ((by repeat (first | exact Below.refl _ _ | assumption | refine Below.drew ?_ | refine bal ?_ _))) hown' hchg hat); clear hown' hchg hat))
        go_roundg (gk - 1)
        case measure => omega
        case rel => exact ⟨j + 1, A5, n5, c5, rfl, by go_num, by omega, by omega, HN⟩
      · have HFF : Hid (mostF T j = ⟨(j : Int), 0, 1, 0, 0, 0, 0, T⟩) := by rw [Hid, mostF, if_neg hj0]
        have e2 : ((j : Int) == 0) = false := by simpa using hj0
        have e3 : (j == 0) = false := by simpa using hj0
        clear hj0
        go_wp2_with (first | (at_make; refine wpList_make_full _ rfl _ _ 25 rfl w.heap.size 5 b0 _ 1 Try.underlying25 hbi hb0 hb1' _ _ _ _ t rfl rfl (by rfl) (by rfl) (by rw [hb2]; omega) (by unfold maxLen; omega) hI.out.be.size ?_; intro w6 hmk hgr; have hb6 : Below wr.heap.size wr w6 := (Below.refl _ _).grown hgr (Nat.le_refl _) (by simp); have hs6 := hb6.size; have hcw := conv_str (List.replicate t 0) (some ⟨wr.heap.size, 0, none⟩) t t _ w6 (made_bytes hmk) (by simp); rw [← hT.out] at hcw; clear hmk hgr) | (at_builtin; refine wpList_append_a _ rfl _ _ _ rfl 65 i0 _ 8 72 Try.underlying60 hi hz0 hz1 hz2 rfl (by decide) Fr.cells_len Fr.cells_one _ (mostL j T) (by rfl) ((hI.out.own.ext ((by repeat (first | exact Below.refl _ _ | assumption | refine Below.drew ?_ | refine bal ?_ _)))).alloc _) _ (some ⟨w6.heap.size + 1, 0, none⟩) [(⟨(j : Int), 0, 1, 0, 0, 0, 0, T⟩ : Fr)] 1 1 (by rfl) rfl (lit_g (⟨(j : Int), 0, 1, 0, 0, 0, 0, T⟩ : Fr) (by simp [World.setCell])) h1.out h2.out ?_; intro v' w9 hown' hchg hat; obtain ⟨A5, n5, c5, rfl, hn5, hle5, hmx5, hnil5⟩ := hown'.form; rw [← HFF.out] at hown'; have HN := Lib.hid (hI.out.next ((by repeat (first | exact Below.refl _ _ | assumption | refine Below.drew ?_ | refine bal ?_ _))) hown' hchg hat); clear hown' hchg hat))
        go_roundg (gk - 1)
        case measure => omega
        case rel => exact ⟨j + 1, A5, n5, c5, rfl, by go_num, by omega, by omega, HN⟩
    · have hjN' : j = N := by omega
      have e1 : decide ((j : Int) < 2048 + mo) = false := decide_eq_false (by have := HN0.out; omega)
      subst hjN'
      have HL : Hid (FrSl wr wr.heap.size A2 (mostL j T) ∧ Below w.heap.size w wr) := ⟨hI.out.own.sl Fr.cells_len, hI.out.be⟩
      have hn : Hid (n2 = (mostL j T).length) := hI.out.own.len
      have hn2 : n2 ≤ 2050 := by rw [hn.out, mostL_len]; exact hjb
      have hwf := Lib.hid (most_wf (N := j) (T := T) hjb (by rw [hTs.out]; exact ht))
      have hck := most_chk (n := j) (t := T) (by have := hNb.out; omega) hjb (by rw [hTs.out]; exact ht)
      rw [hTs.out] at hck
      by_cases hbig : 0 < mo
      · have f1 : decide (0 < mo) = true := decide_eq_true hbig
        rw [if_pos (by have := HN0.out; omega)] at hck
        have hpn := Lib.hid (print_none (l := mostL j T) (by rw [hck]; decide))
        rw [hck] at hpn
        have HCK := Lib.hid hck
        clear hck hI
        go_wp2_with fail
        refine (print_v _ A2 n2 c2 wr _ HL.out.1 hwf.out hn (by omega) hpn.out).mono ?_; rintro e w3 ⟨hb3, A3, n3, c3, rfl, ho3, hf3⟩
        have hn3 : n3 = 0 := ho3.len
        subst hn3
        go_wp2_with fail
        refine (chk_v _ A2 n2 c2 w3 4 (HL.out.1.ext hb3) hwf.out hn HCK.out).mono ?_; rintro e w4 ⟨rfl, hb4⟩
        go_wp2
        go_ret
        exact ⟨rfl, ext_under (ext_under HL.out.2 (Nat.le_refl _) hb3) (Nat.le_refl _) hb4⟩
      · have f1 : decide (0 < mo) = false := decide_eq_false hbig
        rw [if_neg (by have := HN0.out; omega)] at hck
        by_cases htx : 256 < t
        · have f2 : decide ((256 : Int) < (t : Int)) = true := decide_eq_true (by omega)
          have f3 : decide (256 < t) = true := decide_eq_true htx
          rw [if_pos htx] at hck
          have hpn := Lib.hid (print_none (l := mostL j T) (by rw [hck]; decide))
          rw [hck] at hpn
          have HCK := Lib.hid hck
          clear hck hI
          go_wp2_with fail
          refine (print_v _ A2 n2 c2 wr _ HL.out.1 hwf.out hn (by omega) hpn.out).mono ?_; rintro e w3 ⟨hb3, A3, n3, c3, rfl, ho3, hf3⟩
          have hn3 : n3 = 0 := ho3.len
          subst hn3
          go_wp2_with fail
          refine (chk_v _ A2 n2 c2 w3 200 (HL.out.1.ext hb3) hwf.out hn HCK.out).mono ?_; rintro e w4 ⟨rfl, hb4⟩
          go_wp2
          go_ret
          exact ⟨rfl, ext_under (ext_under HL.out.2 (Nat.le_refl _) hb3) (Nat.le_refl _) hb4⟩
        · have f2 : decide ((256 : Int) < (t : Int)) = false := decide_eq_false (by omega)
          have f3 : decide (256 < t) = false := decide_eq_false htx
          rw [if_neg htx] at hck
          have HCK := Lib.hid hck
          by_cases hlong : 262144 < (outF (mostL j T)).length
          · have hpn : Hid (printF (mostL j T) = ([], 3)) := by unfold Hid printF; rw [if_pos hck, if_pos hlong]
            have f4 : decide ((100 : Int) < (t : Int)) = true := decide_eq_true (by
              rcases Nat.lt_or_ge 100 t with h | h
              · omega
              · have := most_out (n := j) (t := T) (by have := HN0.out; omega) (by rw [hTs.out]; exact h)
                omega)
            have f5 : decide (100 < t) = true := decide_eq_true (by have := of_decide_eq_true f4; omega)
            clear hck hI hlong
            go_wp2_with fail
            refine (print_v _ A2 n2 c2 wr _ HL.out.1 hwf.out hn (by omega) hpn.out).mono ?_; rintro e w3 ⟨hb3, A3, n3, c3, rfl, ho3, hf3⟩
            have hn3 : n3 = 0 := ho3.len
            subst hn3
            go_wp2_with fail
            refine (chk_v _ A2 n2 c2 w3 0 (HL.out.1.ext hb3) hwf.out hn HCK.out).mono ?_; rintro e w4 ⟨rfl, hb4⟩
            go_wp2
            go_ret
            exact ⟨rfl, ext_under (ext_under HL.out.2 (Nat.le_refl _) hb3) (Nat.le_refl _) hb4⟩
          · have hpn : Hid (printF (mostL j T) = (outF (mostL j T), 0)) := by unfold Hid printF; rw [if_pos hck, if_neg hlong]
            have HLO := Lib.hid hlong
            clear hck hI hlong
            go_wp2_with fail
            refine (print_v _ A2 n2 c2 wr _ HL.out.1 hwf.out hn (by omega) hpn.out).mono ?_; rintro e w3 ⟨hb3, A3, n3, c3, rfl, ho3, hf3⟩
            have T3 : Hid (TB w w3 A2 (mostL j T) A3 (outF (mostL j T))) := ⟨HL.out.1.ext hb3, ho3.sl encB_len, ext_under HL.out.2 (Nat.le_refl _) hb3⟩
            have hn3 : Hid (n3 = (outF (mostL j T)).length) := ho3.len
            obtain ⟨A0, n0, c0, hv0, _, hle3, _⟩ := ho3.form
            cases hv0
            have hn3b : n3 ≤ 262144 := by rw [hn3.out]; have := HLO.out; omega
            clear hb3 ho3 hf3
            go_wp2_with fail
            refine (chk_v _ A2 n2 c2 w3 0 T3.out.sl hwf.out hn HCK.out).mono ?_; rintro e w4 ⟨rfl, hb4⟩
            have T4 := Lib.hid (T3.out.ext hb4)
            clear hb4
            go_wp2_with fail
            refine (parse_v _ A3 n3 c3 w4 (mostL j T, 0) T4.out.by' hn3 hle3 (by omega) (parse_print hpn.out)).mono ?_; rintro e w5 ⟨hb5, A5, n5, c5, rfl, ho5, hf5⟩
            have T5 := Lib.hid (T4.out.ext hb5)
            have HO5 := Lib.hid ho5
            have hn5 : Hid (n5 = (mostL j T).length) := ho5.len
            have hn5b : n5 ≤ 2050 := by rw [hn5.out, mostL_len]; exact hjb
            have g1 : decide ((n3 : Int) ≤ 262144) = true := decide_eq_true (by omega)
            have g2 : decide (n3 ≤ 262144) = true := decide_eq_true hn3b
            clear hb5 ho5 hf5
            go_wp2_with fail
            refine (same_v _ _ A2 A5 n2 n5 c2 c5 w5 true T5.out.sl (HO5.out.sl Fr.cells_len) hn hn5 (by unfold maxLen; omega) (by unfold maxLen; omega) (eqL_self _)).mono ?_; rintro e w6 ⟨rfl, hb6⟩
            go_wp2
            go_ret
            exact ⟨rfl, ext_under T5.out.be (Nat.le_refl _) hb6⟩
set_option maxRecDepth 100000 in
theorem lifted (os : Os) (started : os.Started) (H : Type) (enc : TypeId × Value → H) :
    ReturnsInHanded {} Try.checked os 14 .any (Rows.fragMostSpec.pre6 enc Try.prog Try.f14 Rows.fragMostRow.domain false) (Rows.fragMostSpec.post enc Try.prog Try.f14 false true false false) := by
  refine returnsInHanded_of_change_sized (C := Try.checked) own started (by kernel_rfl) Try.func14
    (ChangeSpec.witness6 (enc := enc) (C := Try.checked) false ⟨#[], #[.int .i64 0, .int .i64 0], []⟩ 8 (by kernel_rfl) (by kernel_rfl) (by kernel_rfl) (by kernel_rfl)) ?_
  intro W base args ds gs before hval0 hW hcnd hsz0 _
  have hval : ∀ (j : Nat) t v, Try.f14.params[j]? = some t → args[j]? = some v → Value.okWide Try.prog W .any base t v := hval0
  have hW' := hW
  obtain ⟨p, q, hA0, hV, rfl, hfz, hnd⟩ := hW
  have hA : DataW.TrodAll enc Try.prog W 0 (fun _ => true) true Try.f14.params.toList args.toList ds p := hA0
  have hsz : (DataW.weightsEach Try.prog (Try.f14.params.toList ++ []) (ds ++ gs)).all (· ≤ reachBytes) = true := hsz0
  rw [Try.params14] at hA hval hsz
  have hAll := hA
  obtain ⟨v0, vs0, d0, ds0, p0, q0, hargs, rfl, rfl, h0, r0⟩ := trodAll_cons hA
  obtain ⟨v1, vs1, d1, ds1, p1, q1, rfl, rfl, rfl, h1, r1⟩ := trodAll_cons r0
  obtain ⟨rfl, rfl, rfl⟩ := trodAll_nil r1
  obtain rfl : args = #[v0, v1] := by cases args; simp_all
  obtain ⟨rfl, rfl⟩ := trodVars_none hV
  obtain ⟨m, rfl, _, _, m_wf⟩ := open_int Try.underlying3 (hval 0 3 v0 rfl rfl) h0
  obtain ⟨t, rfl, _, _, t_wf⟩ := open_int Try.underlying3 (hval 1 3 v1 rfl rfl) h1
  refine (walk m t W).mono fun e W' ⟨he, bel⟩ => ?_
  subst he
  exact ⟨_, rfl, _, _, _, [], _, [], hW', trodAll_mk1 (shut_bool Try.underlying4 _), keep_args laidOut bel (by kernel_rfl) hAll, rfl, bel.frame _, fun h => by cases h⟩

theorem over : Rows.fragMostRow.holds Try.pinned (OpenSpec.ofChange Rows.fragMostSpec) :=
  OpenClaim.holds_of_wide 14 Try.f14 rfl rfl rfl rfl rfl rfl rfl ⟨rfl, rfl, rfl, rfl, rfl⟩ rfl rfl rfl rfl rfl (by kernel_rfl) Try.func14 (by kernel_rfl)
    (of_decide_eq_true (by kernel_rfl)) (by unfold Func.isWrapper; first | (rw [if_pos (by decide +kernel)]; kernel_rfl) | (rw [if_neg (by decide +kernel)]; exact ⟨rfl, rfl⟩))
    (fun os started H enc _ => lifted os started H enc)

theorem proved : Rows.FragMostSaid := over
#print axioms proved
end Go.Proofs.Ytoneechcclndaaa.lawMost
