/- FragBack: a tree that is printed is parsed as it was; bytes that are parsed are those of what they are: whatever the input, the law returns true and leaves its arguments as they were. -/
import Derived.Test.YtoneechcclndaaaFrE
import Derived.Outline
import Derived.BigQuiet
import Derived.Deep.QuietTactic
import Derived.Deep.RegionWith
import Derived.Deep.RegionHeld3
import Derived.Deep.DrawnRows
import Derived.Deep.LoopGhost
import Derived.Deep.DeepCutAuto
import Derived.Laws.EntriesVeiled
namespace Go.Proofs.Ytoneechcclndaaa.lawFBk
open Go.RowKit Go.ChangeShapes Go.WideShapes Go.ChangeAt
set_option linter.unusedVariables false
set_option linter.unusedSimpArgs false
attribute [local go_sem ↓] Go.wp_at_zero Go.wp_at_succ
open Go.Shelf FragA FragB MayA Tree FCheck FTr FForm Wire Word

/-- what came in, at a later world -/
structure TB (w W : World) (A : Option Addr) (l : List Fr) (B : Option Addr) (b : List UInt8) : Prop where
  sl : FrSl W W.heap.size A l
  by' : BySl W W.heap.size B b
  be : Below w.heap.size w W
theorem TB.ext {w W W' : World} {A B : Option Addr} {l : List Fr} {b : List UInt8} (h : TB w W A l B b) (hb : Below W.heap.size W W') : TB w W' A l B b := ⟨h.sl.ext hb, h.by'.ext hb, ext_under h.be (Nat.le_refl _) hb⟩
theorem wf_may {f : Fr} (h : mayB f = true) : f.Wf := by
  have ha := may_all h
  exact ⟨lit_i64' (by omega) (by omega), lit_i64' (by omega) (by omega), lit_i64' (by omega) (by omega), lit_i64' (by omega) (by omega), lit_i64' (by omega) (by omega), lit_i64' (by omega) (by omega), lit_i64' (by omega) (by omega), by omega⟩
theorem wf_chk {l : List Fr} (h : chk l = 0) : FrsWf l := fun f hf => wf_may ((chk_may h).2.2 f hf)
theorem same_v (l m : List Fr) (A B : Option Addr) (n k ca cb : Nat) (w : World) (r : Bool) (hl : FrSl w w.heap.size A l) (hm : FrSl w w.heap.size B m) (hn : Hid (n = l.length)) (hk : Hid (k = m.length)) (h1 : n ≤ maxLen) (h2 : k ≤ maxLen) (hr : eqL l m = r) :
    Calls Try.prog 51 #[.slice A n ca, .slice B k cb] w fun e w' => e = .returned (.bool r) ∧ Below w.heap.size w w' := by
  obtain rfl := hn.out
  obtain rfl := hk.out
  subst hr
  exact same_any l m A B ca cb w hl hm h1 h2
theorem parse_v (l : List UInt8) (A : Option Addr) (n cap : Nat) (w : World) (v : List Fr × Int) (hl : BySl w w.heap.size A l) (hn : Hid (n = l.length)) (hc : n ≤ cap) (hm : n ≤ 1000000000) (hv : parseF l = v) : Calls Try.prog 49 #[.slice A n cap] w (RetFrs w v) := by
  subst hv; exact parse20_any l A n cap w hl hn hc hm
/-- what bytes are parsed as -/
theorem parse_cases (b : List UInt8) : parseF b = ([], 200) ∨ ∃ M, parseF b = (M, 0) ∧ printF M = (b, 0) ∧ chk M = 0 := by
  by_cases h : (parseF b).2 = 0
  · right
    refine ⟨(parseF b).1, ?_, ?_⟩
    · rw [← h]
    · have h1 : parseF b = ((parseF b).1, 0) := by rw [← h]
      have h2 := print_parse h1
      exact ⟨h2, (print_zero h2).1⟩
  · exact .inl (parse_err h)
set_option maxHeartbeats 8000000 in
set_option maxRecDepth 100000 in
theorem walk (l : List Fr) (A : Option Addr) (n cap : Nat) (b : List UInt8) (B : Option Addr) (m cb : Nat) (w : World) (hl : FrSl w w.heap.size A l) (h63 : n ≤ maxLen) (hw : FrsWf l) (hn : Hid (n = l.length)) (hb : BySl w w.heap.size B b) (hm : Hid (m = b.length)) (hmc : m ≤ cb) :
    Calls Try.prog 15 #[.slice A n cap, .slice B m cb] w fun e w' => e = .returned (.bool true) ∧ Below w.heap.size w w' := by
  have T0 : Hid (TB w w A l B b) := ⟨hl, hb, Below.refl _ _⟩
  clear hl hb
  cases hg : greatFrom 0 0 l with
  | true =>
    go_enter Try.func15, Try.ntmps15; go_wp2_with fail; refine (awake20_any _).mono ?_; rintro e w1 ⟨rfl, hb1⟩; have T1 := Lib.hid (T0.out.ext hb1); clear hb1; go_wp2_with fail; refine (great_v l A n cap w1 _ T1.out.sl hn h63 hw hg).mono ?_; rintro e w2 ⟨rfl, rfl⟩
    go_wp2
    go_ret
    exact ⟨rfl, T1.out.be⟩
  | false =>
    have hn200 : n ≤ 200 := by rw [hn.out]; exact great_le hg
    by_cases hm9 : 9000 < m
    · have d1 : decide ((9000 : Int) < (m : Int)) = true := decide_eq_true (by omega)
      go_enter Try.func15, Try.ntmps15; go_wp2_with fail; refine (awake20_any _).mono ?_; rintro e w1 ⟨rfl, hb1⟩; have T1 := Lib.hid (T0.out.ext hb1); clear hb1; go_wp2_with fail; refine (great_v l A n cap w1 _ T1.out.sl hn h63 hw hg).mono ?_; rintro e w2 ⟨rfl, rfl⟩
      go_wp2
      go_ret
      exact ⟨rfl, T1.out.be⟩
    · have d1 : decide ((9000 : Int) < (m : Int)) = false := decide_eq_false (by omega)
      by_cases hc : chk l = 0
      · have HC := Lib.hid (And.intro hc (And.intro (print_tree hg hc) (form_short hg hc)))
        clear hc
        go_enter Try.func15, Try.ntmps15; go_wp2_with fail; refine (awake20_any _).mono ?_; rintro e w1 ⟨rfl, hb1⟩; have T1 := Lib.hid (T0.out.ext hb1); clear hb1; go_wp2_with fail; refine (great_v l A n cap w1 _ T1.out.sl hn h63 hw hg).mono ?_; rintro e w2 ⟨rfl, rfl⟩
        go_wp2_with fail
        refine (print_v l A n cap w1 _ T1.out.sl hw hn (by omega) HC.out.2.1).mono ?_; rintro e w3 ⟨hb3, A3, n3, c3, rfl, ho3, hf3⟩
        have T3 := Lib.hid (T1.out.ext hb3)
        have HO3 := Lib.hid ho3
        have hn3 : Hid (n3 = (outF l).length) := ho3.len
        obtain ⟨A0, n0, c0, hv0, _, hle3, _⟩ := ho3.form
        cases hv0
        have hn3b : n3 ≤ 36010 := by rw [hn3.out]; exact HC.out.2.2
        clear ho3 hf3 hb3 hg
        go_wp2_with fail
        refine (chk_v l A n cap w3 0 T3.out.sl hw hn HC.out.1).mono ?_; rintro e w4 ⟨rfl, hb4⟩
        have T4 := Lib.hid (T3.out.ext hb4)
        have HO4 := Lib.hid (HO3.out.ext hb4)
        clear hb4
        go_wp2_with fail
        refine (parse_v (outF l) A3 n3 c3 w4 (l, 0) (HO4.out.sl encB_len) hn3 hle3 (by omega) (parse_print HC.out.2.1)).mono ?_; rintro e w5 ⟨hb5, A5, n5, c5, rfl, ho5, hf5⟩
        have T5 := Lib.hid (T4.out.ext hb5)
        have HO5 := Lib.hid ho5
        have hn5 : Hid (n5 = l.length) := ho5.len
        have hn5b : n5 ≤ 200 := by rw [hn5.out, ← hn.out]; exact hn200
        clear ho5 hf5 hb5
        go_wp2_with fail
        refine (same_v l l A A5 n n5 cap c5 w5 true T5.out.sl (HO5.out.sl Fr.cells_len) hn hn5 h63 (by unfold maxLen; omega) (eqL_self l)).mono ?_; rintro e w6 ⟨rfl, hb6⟩
        have T6 := Lib.hid (T5.out.ext hb6)
        clear hb6 HO3 HO4 HO5
        go_wp2_with fail
        rcases parse_cases b with hp | ⟨M, hp, hpr, hck⟩
        · refine (parse_v b B m cb w6 _ T6.out.by' hm hmc (by omega) hp).mono ?_; rintro e w8 ⟨hb8, A8, n8, c8, rfl, ho8, hf8⟩
          have hn8 : n8 = 0 := ho8.len
          subst hn8
          have T8 := Lib.hid (T6.out.ext hb8)
          clear ho8 hf8 hb8
          go_wp2
          go_ret
          exact ⟨rfl, T8.out.be⟩
        · have HPR := Lib.hid (And.intro hpr hck)
          refine (parse_v b B m cb w6 _ T6.out.by' hm hmc (by omega) hp).mono ?_; rintro e w8 ⟨hb8, A8, n8, c8, rfl, ho8, hf8⟩
          have T8 := Lib.hid (T6.out.ext hb8)
          have HM := Lib.hid ho8
          have hn8 : Hid (n8 = M.length) := ho8.len
          have hn8b : n8 ≤ 100000000 := by have := (chk_may hck).2.1; rw [hn8.out]; omega
          clear ho8 hf8 hb8 hp hpr hck
          go_wp2_with fail
          refine (print_v M A8 n8 c8 w8 (b, 0) (HM.out.sl Fr.cells_len) (wf_chk HPR.out.2) hn8 hn8b HPR.out.1).mono ?_; rintro e w9 ⟨hb9, A9, n9, c9, rfl, ho9, hf9⟩
          have T9 := Lib.hid (T8.out.ext hb9)
          have HO9 := Lib.hid ho9
          have hn9 : Hid (n9 = b.length) := ho9.len
          have hn9b : n9 ≤ 1000000 := by rw [hn9.out, ← hm.out]; omega
          clear ho9 hf9 hb9
          have hsm := same_at b b A9 B n9 m c9 cb w9 (HO9.out.sl encB_len) T9.out.by' hn9 hm (by unfold maxLen; omega) (by unfold maxLen; omega)
          rw [Bytes.eqB_self] at hsm
          have HSM := Lib.hid hsm
          clear hsm
          go_wp2_with fail
          refine HSM.out.mono ?_; rintro e wa ⟨rfl, ka, rfl⟩
          go_wp2
          go_ret
          exact ⟨rfl, bdrewN T9.out.be ka⟩
      · have hpn : Hid (printF l = ([], chk l)) := print_none hc
        obtain ⟨cz, hcz⟩ : ∃ cz, chk l = cz := ⟨_, rfl⟩
        have hck := Lib.hid hcz
        have hne : (cz == 0) = false := by rw [← hcz]; simpa using hc
        rw [hcz] at hpn
        clear hc hcz
        go_enter Try.func15, Try.ntmps15; go_wp2_with fail; refine (awake20_any _).mono ?_; rintro e w1 ⟨rfl, hb1⟩; have T1 := Lib.hid (T0.out.ext hb1); clear hb1; go_wp2_with fail; refine (great_v l A n cap w1 _ T1.out.sl hn h63 hw hg).mono ?_; rintro e w2 ⟨rfl, rfl⟩
        go_wp2_with fail
        refine (print_v l A n cap w1 _ T1.out.sl hw hn (by omega) hpn.out).mono ?_; rintro e w3 ⟨hb3, A3, n3, c3, rfl, ho3, hf3⟩
        have T3 := Lib.hid (T1.out.ext hb3)
        clear ho3 hf3 hb3 hg
        go_wp2_with fail
        refine (chk_v l A n cap w3 cz T3.out.sl hw hn hck.out).mono ?_; rintro e w4 ⟨rfl, hb4⟩
        have T4 := Lib.hid (T3.out.ext hb4)
        clear hb4
        go_wp2_with fail
        rcases parse_cases b with hp | ⟨M, hp, hpr, hck⟩
        · refine (parse_v b B m cb w4 _ T4.out.by' hm hmc (by omega) hp).mono ?_; rintro e w8 ⟨hb8, A8, n8, c8, rfl, ho8, hf8⟩
          have hn8 : n8 = 0 := ho8.len
          subst hn8
          have T8 := Lib.hid (T4.out.ext hb8)
          clear ho8 hf8 hb8
          go_wp2
          go_ret
          exact ⟨rfl, T8.out.be⟩
        · have HPR := Lib.hid (And.intro hpr hck)
          refine (parse_v b B m cb w4 _ T4.out.by' hm hmc (by omega) hp).mono ?_; rintro e w8 ⟨hb8, A8, n8, c8, rfl, ho8, hf8⟩
          have T8 := Lib.hid (T4.out.ext hb8)
          have HM := Lib.hid ho8
          have hn8 : Hid (n8 = M.length) := ho8.len
          have hn8b : n8 ≤ 100000000 := by have := (chk_may hck).2.1; rw [hn8.out]; omega
          clear ho8 hf8 hb8 hp hpr hck
          go_wp2_with fail
          refine (print_v M A8 n8 c8 w8 (b, 0) (HM.out.sl Fr.cells_len) (wf_chk HPR.out.2) hn8 hn8b HPR.out.1).mono ?_; rintro e w9 ⟨hb9, A9, n9, c9, rfl, ho9, hf9⟩
          have T9 := Lib.hid (T8.out.ext hb9)
          have HO9 := Lib.hid ho9
          have hn9 : Hid (n9 = b.length) := ho9.len
          have hn9b : n9 ≤ 1000000 := by rw [hn9.out, ← hm.out]; omega
          clear ho9 hf9 hb9
          have hsm := same_at b b A9 B n9 m c9 cb w9 (HO9.out.sl encB_len) T9.out.by' hn9 hm (by unfold maxLen; omega) (by unfold maxLen; omega)
          rw [Bytes.eqB_self] at hsm
          have HSM := Lib.hid hsm
          clear hsm
          go_wp2_with fail
          refine HSM.out.mono ?_; rintro e wa ⟨rfl, ka, rfl⟩
          go_wp2
          go_ret
          exact ⟨rfl, bdrewN T9.out.be ka⟩
set_option maxRecDepth 100000 in
theorem lifted (os : Os) (started : os.Started) (H : Type) (enc : TypeId × Value → H) :
    ReturnsInHanded {} Try.checked os 15 .any (Rows.fragBackSpec.pre6 enc Try.prog Try.f15 Rows.fragBackRow.domain false) (Rows.fragBackSpec.post enc Try.prog Try.f15 false true false false) := by
  refine returnsInHanded_of_change_sized (C := Try.checked) own started (by kernel_rfl) Try.func15
    (ChangeSpec.witness6 (enc := enc) (C := Try.checked) false ⟨#[], #[.slice none 0 0, .slice none 0 0], []⟩ 8 (by kernel_rfl) (by kernel_rfl) (by kernel_rfl) (by kernel_rfl)) ?_
  intro W base args ds gs before hval0 hW hcnd hsz0 _
  have hval : ∀ (j : Nat) t v, Try.f15.params[j]? = some t → args[j]? = some v → Value.okWide Try.prog W .any base t v := hval0
  have hW' := hW
  obtain ⟨p, q, hA0, hV, rfl, hfz, hnd⟩ := hW
  have hA : DataW.TrodAll enc Try.prog W 0 (fun _ => true) true Try.f15.params.toList args.toList ds p := hA0
  have hsz : (DataW.weightsEach Try.prog (Try.f15.params.toList ++ []) (ds ++ gs)).all (· ≤ reachBytes) = true := hsz0
  rw [Try.params15] at hA hval hsz
  have hAll := hA
  obtain ⟨v0, vs0, d0, ds0, p0, q0, hargs, rfl, rfl, h0, r0⟩ := trodAll_cons hA
  obtain ⟨v1, vs1, d1, ds1, p1, q1, rfl, rfl, rfl, h1, r1⟩ := trodAll_cons r0
  obtain ⟨rfl, rfl, rfl⟩ := trodAll_nil r1
  obtain rfl : args = #[v0, v1] := by cases args; simp_all
  obtain ⟨rfl, rfl⟩ := trodVars_none hV
  obtain ⟨l_A, l, l_cap, rfl, l_sl, l_ok, l_le, l_max, l_reach, l_nil⟩ := open_sl Try.underlying60 (c := 8) (by kernel_rfl) (by decide) opens_fr (hval 0 60 v0 rfl rfl) h0 (light_of hsz (j := 0) rfl rfl)
  obtain ⟨b_A, b, b_cap, rfl, b_sl, b_ok, b_le, b_max, b_reach, b_nil⟩ := open_sl Try.underlying25 (c := 1) (by kernel_rfl) (by decide) opens_u8 (hval 1 25 v1 rfl rfl) h1 (light_of hsz (j := 1) rfl rfl)
  refine (walk l l_A l.length l_cap b b_A b.length b_cap W l_sl (Nat.le_trans l_le l_max) l_ok rfl b_sl rfl b_le).mono fun e W' ⟨he, bel⟩ => ?_
  subst he
  exact ⟨_, rfl, _, _, _, [], _, [], hW', trodAll_mk1 (shut_bool Try.underlying4 _), keep_args laidOut bel (by kernel_rfl) hAll, rfl, bel.frame _, fun h => by cases h⟩

theorem over : Rows.fragBackRow.holds Try.pinned (OpenSpec.ofChange Rows.fragBackSpec) :=
  OpenClaim.holds_of_wide 15 Try.f15 rfl rfl rfl rfl rfl rfl rfl ⟨rfl, rfl, rfl, rfl, rfl⟩ rfl rfl rfl rfl rfl (by kernel_rfl) Try.func15 (by kernel_rfl)
    (of_decide_eq_true (by kernel_rfl)) (by unfold Func.isWrapper; first | (rw [if_pos (by decide +kernel)]; kernel_rfl) | (rw [if_neg (by decide +kernel)]; exact ⟨rfl, rfl⟩))
    (fun os started H enc _ => lifted os started H enc)

theorem proved : Rows.FragBackSaid := over
#print axioms proved
end Go.Proofs.Ytoneechcclndaaa.lawFBk
