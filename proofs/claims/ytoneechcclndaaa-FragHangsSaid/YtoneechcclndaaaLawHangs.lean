/- FragHangs: each fragment of a tree but the first one has a parent, ahead of it, one less deep, below which it is; and is below no other one of that depth: whatever the input, the law returns true and leaves its arguments as they were. -/
import Derived.Test.YtoneechcclndaaaFrC
import Derived.Outline
import Derived.BigQuiet
import Derived.Deep.QuietTactic
import Derived.Deep.RegionWith
import Derived.Deep.RegionHeld3
import Derived.Deep.DrawnRows
import Derived.Deep.LoopGhost
import Derived.Deep.DeepCutAuto
import Derived.Laws.EntriesVeiled
namespace Go.Proofs.Ytoneechcclndaaa.lawHangs
open Go.RowKit Go.ChangeShapes Go.WideShapes Go.ChangeAt
set_option linter.unusedVariables false
set_option linter.unusedSimpArgs false
attribute [local go_sem ↓] Go.wp_at_zero Go.wp_at_succ
open Go.Shelf FragA FragB MayA Tree FCheck FTr FForm

theorem keep2 {w w' : World} {bb o1 o2 : Nat} {x y : Value} (h : w.cell? ⟨bb, o1, none⟩ = some x ∧ w.cell? ⟨bb, o2, none⟩ = some y) (hb : Below w.heap.size w w') : w'.cell? ⟨bb, o1, none⟩ = some x ∧ w'.cell? ⟨bb, o2, none⟩ = some y :=
  ⟨(hb.cell (p := ⟨bb, o1, none⟩) (World.block_lt_of_cell? w _ h.1)).trans h.1, (hb.cell (p := ⟨bb, o2, none⟩) (World.block_lt_of_cell? w _ h.2)).trans h.2⟩
set_option maxHeartbeats 8000000 in
set_option maxRecDepth 100000 in
theorem walk (l : List Fr) (A : Option Addr) (n cap : Nat) (i : Int) (w : World) (hl : FrSl w w.heap.size A l) (h63 : n ≤ maxLen) (hw : FrsWf l) (hn : Hid (n = l.length)) :
    Calls Try.prog 9 #[.slice A n cap, .int .i64 i] w fun e w' => e = .returned (.bool true) ∧ Below w.heap.size w w' := by
  have T0 : Hid (TW w w A l) := ⟨hl, Below.refl _ _⟩
  clear hl
  cases hg : greatFrom 0 0 l with
  | true =>
    go_enter Try.func9, Try.ntmps9; go_wp2_with fail; refine (awake20_any _).mono ?_; rintro e w1 ⟨rfl, hb1⟩; have T1 := Lib.hid (T0.out.ext hb1); clear hb1; go_wp2_with fail; refine (great_v l A n cap w1 _ T1.out.sl hn h63 hw hg).mono ?_; rintro e w2 ⟨rfl, rfl⟩
    go_wp2
    go_ret
    exact ⟨rfl, T1.out.be⟩
  | false =>
    have hn200 : n ≤ 200 := by rw [hn.out]; exact great_le hg
    by_cases hc : chk l = 0
    · have HT := Lib.hid (And.intro hc (tree_of hc))
      have hn1 : 1 ≤ n := by rw [hn.out]; exact HT.out.2.ne
      obtain ⟨v, hv, hvn⟩ := wrapmod i n hn1
      have f1 : IntKind.u64.wrap (n : Int) = (n : Int) := IntWalk.u64_in _ (by omega)
      have f2 : IntKind.i64.wrap (v : Int) = (v : Int) := IntWalk.i64_in _ (by omega)
      have g2 : ((n : Int) == 0) = false := by simp; omega
      have g4 : ¬ (n : Int) = 0 := by omega
      have g5 : ¬ n = 0 := by omega
      have hvl : v < l.length := by rw [← hn.out]; exact hvn
      have HV := Lib.hid (And.intro hvn hvl)
      by_cases hv0 : v = 0
      · subst hv0
        have HP := Lib.hid (And.intro (par_zero hc) (end_zero hc))
        clear hc
        go_enter Try.func9, Try.ntmps9; go_wp2_with fail; refine (awake20_any _).mono ?_; rintro e w1 ⟨rfl, hb1⟩; have T1 := Lib.hid (T0.out.ext hb1); clear hb1; go_wp2_with fail; refine (great_v l A n cap w1 _ T1.out.sl hn h63 hw hg).mono ?_; rintro e w2 ⟨rfl, rfl⟩
        go_wp2_with fail
        refine (chk_v l A n cap w1 0 T1.out.sl hw hn HT.out.1).mono ?_; rintro e w3 ⟨rfl, hb3⟩
        have T3 := Lib.hid (T1.out.ext hb3)
        clear hb3 hg
        go_wp2_with fail
        refine (par_v l A n cap 0 w3 (-1) T3.out.sl hw hn HP.out.1).mono ?_; rintro e w4 ⟨rfl, hb4⟩
        have T4 := Lib.hid (T3.out.ext hb4)
        clear hb4
        go_wp2_with fail
        refine (end_v l A n cap 0 w4 (n : Int) T4.out.sl hw hn h63 (by rw [HP.out.2, hn.out])).mono ?_; rintro e w5 ⟨rfl, hb5⟩
        have T5 := Lib.hid (T4.out.ext hb5)
        clear hb5
        go_wp2
        go_ret
        exact ⟨rfl, T5.out.be⟩
      · obtain ⟨p, hp, hpa⟩ := par_spec hc hvl (by omega)
        have hpv := hpa.lt
        have hpl : p < l.length := by omega
        obtain ⟨ev, hev, hevE⟩ := end_spec hc hvl
        obtain ⟨ep, hep, hepE⟩ := end_spec hc hpl
        have hle := end_par hpa hevE hepE hvl
        have xv := List.getElem?_eq_getElem hvl
        have xp := List.getElem?_eq_getElem hpl
        have hdv := dep_at xv
        have hdp := dep_at xp
        have hdd := hpa.dep
        rw [hdv, hdp] at hdd
        have hrange := chk_may hc
        have hdr := (may_all (hrange.2.2 _ (List.mem_of_getElem? xv))).2.2.1
        have HP := Lib.hid (And.intro hpa (And.intro hepE (And.intro hp (And.intro hep (And.intro hev (And.intro xv xp))))))
        clear hpa hevE hepE hev hep hp xv xp hdv hdp hrange
        generalize l[v] = fv at *
        generalize l[p] = fp at *
        have e1 : IntKind.i64.wrap (fv.depth - 1) = fp.depth := by rw [← hdd]; exact IntWalk.i64_in _ (by omega)
        have e2 : decide ((p : Int) < 0) = false := decide_eq_false (by omega)
        have e3 : decide ((v : Int) ≤ (p : Int)) = false := decide_eq_false (by omega)
        have e4 : decide ((ep : Int) < (ev : Int)) = false := decide_eq_false (by omega)
        have e5 : ((v : Int) == 0) = false := by simp; omega
        have e6 : decide (v ≤ p) = false := decide_eq_false (by omega)
        have e7 : decide (ep < ev) = false := decide_eq_false (by omega)
        have b1 : (0 : Int) ≤ (v : Int) := Int.natCast_nonneg _
        have b2 : (v : Int) < (n : Int) := by omega
        have b3 : (0 : Int) ≤ (p : Int) := Int.natCast_nonneg _
        have b4 : (p : Int) < (n : Int) := by omega
        have HD := Lib.hid (And.intro hpv (And.intro hpl (And.intro hdd hv0)))
        clear hc hdd hdr hle
        go_enter Try.func9, Try.ntmps9; go_wp2_with fail; refine (awake20_any _).mono ?_; rintro e w1 ⟨rfl, hb1⟩; have T1 := Lib.hid (T0.out.ext hb1); clear hb1; go_wp2_with fail; refine (great_v l A n cap w1 _ T1.out.sl hn h63 hw hg).mono ?_; rintro e w2 ⟨rfl, rfl⟩
        go_wp2_with fail
        refine (chk_v l A n cap w1 0 T1.out.sl hw hn HT.out.1).mono ?_; rintro e w3 ⟨rfl, hb3⟩
        have T3 := Lib.hid (T1.out.ext hb3)
        clear hb3 hg
        go_wp2_with fail
        refine (par_v l A n cap (v : Int) w3 (p : Int) T3.out.sl hw hn HP.out.2.2.1).mono ?_; rintro e w4 ⟨rfl, hb4⟩
        have T4 := Lib.hid (T3.out.ext hb4)
        clear hb4
        clear f1 f2 g2 g4 g5 hv
        obtain ⟨bb, off, rfl, hbb, hcell⟩ := T4.out.sl (by intro h; have h1 := HD.out.2.1; rw [h] at h1; simp at h1)
        have cv := hcell v _ HP.out.2.2.2.2.2.1 2 _ rfl
        have cp := hcell p _ HP.out.2.2.2.2.2.2 2 _ rfl
        have KK := And.intro cp cv
        clear hcell
        have m1 := Lib.hid fun W (hW : Below w4.heap.size w4 W) => end_v l (some ⟨bb, off, none⟩) n cap (p : Int) W (ep : Int) (T4.out.ext hW).sl hw hn h63 HP.out.2.2.2.1
        have m2 := Lib.hid fun W (hW : Below w4.heap.size w4 W) => end_v l (some ⟨bb, off, none⟩) n cap (v : Int) W (ev : Int) (T4.out.ext hW).sl hw hn h63 HP.out.2.2.2.2.1
        go_wp2_with fail
        go_region_held3 (fun w' => w'.cell? ⟨bb, off + p * 8 + 2, none⟩ = some (.int .i64 fp.depth) ∧ w'.cell? ⟨bb, off + v * 8 + 2, none⟩ = some (.int .i64 fv.depth))
          (first | exact KK | (exact keep2 KK (undrew1 hbm1)) | (exact keep2 (keep2 KK (undrew1 hbm1)) hbm2))
          (first | (go_at_call_of 43 (Value.int .i64 (p : Int)); refine (m1.out _ ((Below.refl _ _).drew)).mono ?_; rintro e w' ⟨rfl, hbm1⟩) | (go_at_call_of 43 (Value.int .i64 (v : Int)); refine (m2.out _ (undrew1 hbm1)).mono ?_; rintro e w' ⟨rfl, hbm2⟩))
        have T5 := Lib.hid ((T4.out.ext (undrew1 hbm1)).ext hbm2)
        clear hbm1 hbm2 KK cp cv m1 m2
        go_wp2_with fail
        go_loopg [6] v (fun g vk wr => ∃ k : Nat, vk = .int .i64 (k : Int) ∧ v ≤ k + g ∧ k ≤ v ∧ Hid (TW w wr (some ⟨bb, off, none⟩) l))
        case atStart => exact ⟨0, rfl, by omega, by omega, T5⟩
        case round =>
          obtain ⟨k, rfl, hgk, hkv, hT⟩ := hrel
          by_cases hlt : k < v
          · have hkl : k < l.length := by omega
            obtain ⟨ek, hek, hekE⟩ := end_spec HT.out.1 hkl
            have xk := List.getElem?_eq_getElem hkl
            have hdk := dep_at xk
            have hdp := dep_at HP.out.2.2.2.2.2.2
            have ha1 : k = p → v < ek := fun h => by subst h; exact above_par HP.out.1 hekE hvl
            have ha2 : v < ek → (l[k]).depth = fp.depth → k = p := fun h1 h2 => above_only HP.out.1 hekE hlt h1 (by rw [hdk, hdp]; exact h2)
            have ha3 : k = p → (l[k]).depth = fp.depth := fun h => by subst h; rw [← hdk, ← hdp]
            have HE := Lib.hid (And.intro xk (And.intro hek (And.intro ha1 (And.intro ha2 ha3))))
            obtain ⟨b', o', hA', hbk, hcell⟩ := hT.out.sl (by intro h; have h1 := HD.out.2.1; rw [h] at h1; simp at h1)
            obtain ⟨rfl, rfl⟩ : bb = b' ∧ off = o' := by injection hA' with h; injection h with h1 h2; exact ⟨h1, h2⟩
            have ck0 := hcell k _ xk 2 _ rfl
            have cp0 := hcell p _ HP.out.2.2.2.2.2.2 2 _ rfl
            clear hcell hA' xk hek hekE hdk hdp ha1 ha2 ha3
            generalize l[k] = fk at *
            have k1 : (0 : Int) ≤ (k : Int) := Int.natCast_nonneg _
            have k2 : (k : Int) < (n : Int) := by omega
            have k3 : (k : Int) < (v : Int) := by omega
            have k4 : decide (k < v) = true := decide_eq_true hlt
            by_cases hab : v < ek
            · have y1 : decide ((v : Int) < (ek : Int)) = true := decide_eq_true (by omega)
              have y1' : decide (v < ek) = true := decide_eq_true hab
              by_cases hde : fk.depth = fp.depth
              · have hkp := HE.out.2.2.2.1 hab hde
                have y2 : (fk.depth == fp.depth) = true := by simpa using hde
                have y3 : ((k : Int) != (p : Int)) = false := by rw [hkp]; simp
                have y4 : ((k : Int) == (p : Int)) = true := by rw [hkp]; simp
                have y5 : (k != p) = false := by rw [hkp]; simp
                have y6 : (k == p) = true := by rw [hkp]; simp
                clear hkp hde hab
                go_wp2_with fail
                refine (end_v l (some ⟨bb, off, none⟩) n cap (k : Int) wr (ek : Int) hT.out.sl hw hn h63 HE.out.2.1).mono ?_; rintro e w8 ⟨rfl, hb8⟩
                have T8 := Lib.hid (hT.out.ext hb8)
                have ck := (hb8.cell (p := ⟨bb, off + k * 8 + 2, none⟩) hbk).trans ck0
                have cp := (hb8.cell (p := ⟨bb, off + p * 8 + 2, none⟩) hbk).trans cp0
                clear hb8 ck0 cp0
                go_wp2_with fail
                go_quiet (fail)
                have T9 := Lib.hid (T8.out.drewN nq)
                go_wp2
                go_roundg (gk - 1)
                case measure => omega
                case rel => exact ⟨k + 1, by go_num, by omega, by omega, T9⟩
              · have hkp : k ≠ p := fun h => hde (HE.out.2.2.2.2 h)
                have y2 : (fk.depth == fp.depth) = false := by simpa using hde
                have y4 : ((k : Int) == (p : Int)) = false := by simp; omega
                have y6 : (k == p) = false := by simpa using hkp
                clear hkp hde hab
                go_wp2_with fail
                refine (end_v l (some ⟨bb, off, none⟩) n cap (k : Int) wr (ek : Int) hT.out.sl hw hn h63 HE.out.2.1).mono ?_; rintro e w8 ⟨rfl, hb8⟩
                have T8 := Lib.hid (hT.out.ext hb8)
                have ck := (hb8.cell (p := ⟨bb, off + k * 8 + 2, none⟩) hbk).trans ck0
                have cp := (hb8.cell (p := ⟨bb, off + p * 8 + 2, none⟩) hbk).trans cp0
                clear hb8 ck0 cp0
                go_wp2_with fail
                go_quiet (fail)
                have T9 := Lib.hid (T8.out.drewN nq)
                go_wp2
                go_roundg (gk - 1)
                case measure => omega
                case rel => exact ⟨k + 1, by go_num, by omega, by omega, T9⟩
            · have hkp : k ≠ p := fun h => hab (HE.out.2.2.1 h)
              have y1 : decide ((v : Int) < (ek : Int)) = false := decide_eq_false (by omega)
              have y1' : decide (v < ek) = false := decide_eq_false hab
              have y4 : ((k : Int) == (p : Int)) = false := by simp; omega
              have y6 : (k == p) = false := by simpa using hkp
              clear hkp hab
              go_wp2_with fail
              refine (end_v l (some ⟨bb, off, none⟩) n cap (k : Int) wr (ek : Int) hT.out.sl hw hn h63 HE.out.2.1).mono ?_; rintro e w8 ⟨rfl, hb8⟩
              have T8 := Lib.hid (hT.out.ext hb8)
              have ck := (hb8.cell (p := ⟨bb, off + k * 8 + 2, none⟩) hbk).trans ck0
              have cp := (hb8.cell (p := ⟨bb, off + p * 8 + 2, none⟩) hbk).trans cp0
              clear hb8 ck0 cp0
              go_wp2_with fail
              go_quiet (fail)
              have T9 := Lib.hid (T8.out.drewN nq)
              go_wp2
              go_roundg (gk - 1)
              case measure => omega
              case rel => exact ⟨k + 1, by go_num, by omega, by omega, T9⟩
          · have k3 : ¬ (k : Int) < (v : Int) := by omega
            have k4 : decide (k < v) = false := decide_eq_false hlt
            go_wp2
            go_ret
            exact ⟨rfl, hT.out.be⟩
    · have hne : (chk l != 0) = true := by simpa using hc
      have hck := Lib.hid fun W (h : TW w W A l) => check_any l A n cap W h.sl hw hn
      generalize chk l = cz at *
      go_enter Try.func9, Try.ntmps9; go_wp2_with fail; refine (awake20_any _).mono ?_; rintro e w1 ⟨rfl, hb1⟩; have T1 := Lib.hid (T0.out.ext hb1); clear hb1; go_wp2_with fail; refine (great_v l A n cap w1 _ T1.out.sl hn h63 hw hg).mono ?_; rintro e w2 ⟨rfl, rfl⟩
      go_wp2_with fail
      refine (hck.out w1 T1.out).mono ?_; rintro e w3 ⟨rfl, hb3⟩
      go_wp2
      go_ret
      exact ⟨rfl, ext_under T1.out.be (Nat.le_refl _) hb3⟩
set_option maxRecDepth 100000 in
theorem lifted (os : Os) (started : os.Started) (H : Type) (enc : TypeId × Value → H) :
    ReturnsInHanded {} Try.checked os 9 .any (Rows.fragHangsSpec.pre6 enc Try.prog Try.f9 Rows.fragHangsRow.domain false) (Rows.fragHangsSpec.post enc Try.prog Try.f9 false true false false) := by
  refine returnsInHanded_of_change_sized (C := Try.checked) own started (by kernel_rfl) Try.func9
    (ChangeSpec.witness6 (enc := enc) (C := Try.checked) false ⟨#[], #[.slice none 0 0, .int .i64 0], []⟩ 8 (by kernel_rfl) (by kernel_rfl) (by kernel_rfl) (by kernel_rfl)) ?_
  intro W base args ds gs before hval0 hW hcnd hsz0 _
  have hval : ∀ (j : Nat) t v, Try.f9.params[j]? = some t → args[j]? = some v → Value.okWide Try.prog W .any base t v := hval0
  have hW' := hW
  obtain ⟨p, q, hA0, hV, rfl, hfz, hnd⟩ := hW
  have hA : DataW.TrodAll enc Try.prog W 0 (fun _ => true) true Try.f9.params.toList args.toList ds p := hA0
  have hsz : (DataW.weightsEach Try.prog (Try.f9.params.toList ++ []) (ds ++ gs)).all (· ≤ reachBytes) = true := hsz0
  rw [Try.params9] at hA hval hsz
  have hAll := hA
  obtain ⟨v0, vs0, d0, ds0, p0, q0, hargs, rfl, rfl, h0, r0⟩ := trodAll_cons hA
  obtain ⟨v1, vs1, d1, ds1, p1, q1, rfl, rfl, rfl, h1, r1⟩ := trodAll_cons r0
  obtain ⟨rfl, rfl, rfl⟩ := trodAll_nil r1
  obtain rfl : args = #[v0, v1] := by cases args; simp_all
  obtain ⟨rfl, rfl⟩ := trodVars_none hV
  obtain ⟨l_A, l, l_cap, rfl, l_sl, l_ok, l_le, l_max, l_reach, l_nil⟩ := open_sl Try.underlying60 (c := 8) (by kernel_rfl) (by decide) opens_fr (hval 0 60 v0 rfl rfl) h0 (light_of hsz (j := 0) rfl rfl)
  obtain ⟨i, rfl, _, _, i_wf⟩ := open_int Try.underlying3 (hval 1 3 v1 rfl rfl) h1
  refine (walk l l_A l.length l_cap i W l_sl (Nat.le_trans l_le l_max) l_ok rfl).mono fun e W' ⟨he, bel⟩ => ?_
  subst he
  exact ⟨_, rfl, _, _, _, [], _, [], hW', trodAll_mk1 (shut_bool Try.underlying4 _), keep_args laidOut bel (by kernel_rfl) hAll, rfl, bel.frame _, fun h => by cases h⟩

theorem over : Rows.fragHangsRow.holds Try.pinned (OpenSpec.ofChange Rows.fragHangsSpec) :=
  OpenClaim.holds_of_wide 9 Try.f9 rfl rfl rfl rfl rfl rfl rfl ⟨rfl, rfl, rfl, rfl, rfl⟩ rfl rfl rfl rfl rfl (by kernel_rfl) Try.func9 (by kernel_rfl)
    (of_decide_eq_true (by kernel_rfl)) (by unfold Func.isWrapper; first | (rw [if_pos (by decide +kernel)]; kernel_rfl) | (rw [if_neg (by decide +kernel)]; exact ⟨rfl, rfl⟩))
    (fun os started H enc _ => lifted os started H enc)

theorem proved : Rows.FragHangsSaid := over
#print axioms proved
end Go.Proofs.Ytoneechcclndaaa.lawHangs
