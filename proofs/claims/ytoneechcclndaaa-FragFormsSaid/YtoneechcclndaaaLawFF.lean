/- FragForms: any fragments have the form that the chapter says, or none; any bytes are the tree that it says, or none; they stay, and what is told is the caller's own: whatever the input, the law returns true and leaves its arguments as they were. -/
import Derived.Test.YtoneechcclndaaaLawFBk
import Derived.Test.YtoneechcclndaaaFrH
import Derived.Outline
import Derived.BigQuiet
import Derived.Deep.QuietTactic
import Derived.Deep.RegionWith
import Derived.Deep.RegionHeld3
import Derived.Deep.DrawnRows
import Derived.Deep.LoopGhost
import Derived.Deep.DeepCutAuto
import Derived.Laws.EntriesVeiled
namespace Go.Proofs.Ytoneechcclndaaa.lawFF
open Go.RowKit Go.ChangeShapes Go.WideShapes Go.ChangeAt
set_option linter.unusedVariables false
set_option linter.unusedSimpArgs false
attribute [local go_sem ↓] Go.wp_at_zero Go.wp_at_succ
open Go.Shelf FragA FragB MayA Tree FCheck FTr FForm Wire Word lawFBk

theorem rsame_v (l m : List Fr) (A B : Option Addr) (n k ca cb : Nat) (w : World) (r : Bool) (hl : FrSl w w.heap.size A l) (hm : FrSl w w.heap.size B m) (hn : Hid (n = l.length)) (hk : Hid (k = m.length)) (h1 : n ≤ maxLen) (h2 : k ≤ maxLen) (hr : eqL l m = r) :
    Calls Try.prog 48 #[.slice A n ca, .slice B k cb] w fun e w' => e = .returned (.bool r) ∧ Below w.heap.size w w' := by
  obtain rfl := hn.out
  obtain rfl := hk.out
  subst hr
  exact FragB.rsame_any l m A B ca cb w hl hm h1 h2
theorem rparse_v (l : List UInt8) (A : Option Addr) (n cap : Nat) (w : World) (v : List Fr × Int) (hl : BySl w w.heap.size A l) (hn : Hid (n = l.length)) (hc : n ≤ cap) (hm : n ≤ 1000000000) (hv : parseF l = v) : Calls Try.prog 50 #[.slice A n cap] w (RetFrs w v) := by
  subst hv; exact rparse20_any l A n cap w hl hn hc hm
theorem rprint_v (l : List Fr) (A : Option Addr) (n cap : Nat) (w : World) (v : List UInt8 × Int) (hl : FrSl w w.heap.size A l) (hw : FrsWf l) (hn : Hid (n = l.length)) (h63 : n ≤ 100000000) (hv : printF l = v) : Calls Try.prog 47 #[.slice A n cap] w (RetPut w v) := by
  subst hv; exact rprint20_any l A n cap w hl hw hn h63
theorem bsame_v (l : List UInt8) (A B : Option Addr) (n m ca cb : Nat) (W : World) (h1 : BySl W W.heap.size A l) (h2 : BySl W W.heap.size B l) (hn : Hid (n = l.length)) (hm : Hid (m = l.length)) (hb : n ≤ maxLen) (hb2 : m ≤ maxLen) : Calls Try.prog 20 #[.slice A n ca, .slice B m cb] W fun e w' => e = .returned (.bool true) ∧ Below W.heap.size W w' := by
  have h := same_at l l A B n m ca cb W h1 h2 hn hm hb hb2
  rw [Bytes.eqB_self] at h
  exact h.mono fun e w' ⟨he, k, hk⟩ => ⟨he, by rw [hk]; exact bdrewN (Below.refl _ _) k⟩
/-- what the turns keep -/
structure FI (w W : World) (l : List Fr) (A MA : Option Addr) (b : List UInt8) (B CB : Option Addr) : Prop where
  sl : FrSl W W.heap.size A l
  ml : FrSl W W.heap.size MA l
  bl : BySl W W.heap.size B b
  cl : BySl W W.heap.size CB b
  be : Below w.heap.size w W
theorem FI.ext {w W W' : World} {l : List Fr} {A MA : Option Addr} {b : List UInt8} {B CB : Option Addr} (h : FI w W l A MA b B CB) (hb : Below W.heap.size W W') : FI w W' l A MA b B CB := ⟨h.sl.ext hb, h.ml.ext hb, h.bl.ext hb, h.cl.ext hb, ext_under h.be (Nat.le_refl _) hb⟩
/-- what stands while what was told is written over -/
structure NI (Wt wx : World) (A : Option Addr) (n c : Nat) : Prop where
  own : ∃ L : List Fr, OwnA wx 65 8 Fr.cells (.slice A n c) L
  be : Below Wt.heap.size Wt wx
  fr : ∀ k, (Value.slice A n c).ownBlock = some k → Wt.heap.size ≤ k
theorem NI.at_ {Wt wx : World} {A : Option Addr} {n c : Nat} (h : NI Wt wx A n c) {j : Nat} (hj : j < n) : ∃ g off u, A = some ⟨g, off, none⟩ ∧ wx.cell? ⟨g, off + j * 8, none⟩ = some (.int .i64 u) ∧ wx.frozen? ⟨g, off + j * 8, none⟩ = false ∧ ∀ z, NI Wt (wx.setCell ⟨g, off + j * 8, none⟩ (.int .i64 z)) A n c := by
  obtain ⟨L, ho⟩ := h.own
  have hn := ho.len
  have hx : L[j]? = some L[j] := List.getElem?_eq_getElem (by omega)
  obtain ⟨g, off, rfl, hb, hc⟩ := (ho.sl Fr.cells_len).at_ hx
  obtain ⟨off', cap', cur, hv, hrow, _⟩ := ho.row (g := g) rfl
  have c0 := hc 0 _ rfl
  have h2 := fun z => OwnA.store Fr.cells_len ho (k := j) (j := 0) (x := L[j]) (x' := { L[j] with node := z }) (u := .int .i64 z) hx (by decide) rfl
  simp only [Nat.add_zero] at c0 h2
  refine ⟨g, off, _, rfl, c0, frozen_of_row wx g _ cur _ hrow, fun z => ⟨⟨_, h2 z⟩, h.be.setCell (p := ⟨g, _, none⟩) (h.fr g rfl) _, h.fr⟩⟩
set_option maxHeartbeats 8000000 in
set_option maxRecDepth 100000 in
theorem walk (l : List Fr) (A : Option Addr) (n cap : Nat) (b : List UInt8) (B : Option Addr) (m cb : Nat) (w : World) (hl : FrSl w w.heap.size A l) (h63 : n ≤ maxLen) (hw : FrsWf l) (hn : Hid (n = l.length)) (hb : BySl w w.heap.size B b) (hm : Hid (m = b.length)) (hmc : m ≤ cb) :
    Calls Try.prog 13 #[.slice A n cap, .slice B m cb] w fun e w' => e = .returned (.bool true) ∧ Below w.heap.size w w' := by
  have HL := Lib.hid (And.intro hl hb)
  clear hl hb
  cases hg : greatFrom 0 0 l with
  | true =>
    go_enter Try.func13, Try.ntmps13; go_wp2_with fail; refine (great_v l A n cap w _ HL.out.1 hn h63 hw hg).mono ?_; rintro e w2 ⟨rfl, rfl⟩
    go_wp2
    go_ret
    exact ⟨rfl, Below.refl _ _⟩
  | false =>
    have hn200 : n ≤ 200 := by rw [hn.out]; exact great_le hg
    by_cases hm9 : 9000 < m
    · have d1 : decide ((9000 : Int) < (m : Int)) = true := decide_eq_true (by omega)
      go_enter Try.func13, Try.ntmps13; go_wp2_with fail; refine (great_v l A n cap w _ HL.out.1 hn h63 hw hg).mono ?_; rintro e w2 ⟨rfl, rfl⟩
      go_wp2
      go_ret
      exact ⟨rfl, Below.refl _ _⟩
    · have d1 : decide ((9000 : Int) < (m : Int)) = false := decide_eq_false (by omega)
      have hcpl := Lib.hid (copy_any l A cap w HL.out.1 (by rw [← hn.out]; omega))
      rw [← hn.out] at hcpl
      have hcpb := Lib.hid fun W (hW : BySl W W.heap.size B b) => Bytes.copy_any b B m cb W hW (by rw [← hm.out]; omega) hm
      obtain ⟨X, hX⟩ : ∃ X, printF l = X := ⟨_, rfl⟩
      have HPR := Lib.hid hX
      obtain ⟨Y, hY⟩ : ∃ Y, parseF b = Y := ⟨_, rfl⟩
      have HPA := Lib.hid hY
      have hYl : Hid (Y.1.length ≤ 2048) := by
        rw [Hid, ← hY]
        rcases parse_cases b with h | ⟨M, h, _, hck⟩
        · rw [h]; decide
        · rw [h]; exact (chk_may hck).2.1
      clear hX hY
      obtain ⟨p, er⟩ := X
      obtain ⟨P, eq⟩ := Y
      go_enter Try.func13, Try.ntmps13; go_wp2_with fail; refine (great_v l A n cap w _ HL.out.1 hn h63 hw hg).mono ?_; rintro e w2 ⟨rfl, rfl⟩
      clear hg
      go_wp2_with fail
      refine hcpl.out.mono ?_; rintro e w3 ⟨mv, rfl, hown3, hb3⟩
      obtain ⟨MA, mn, mc, rfl, hmn, hmle, hmmx⟩ := hown3.form
      have H3 : Hid (FrSl w3 w3.heap.size MA l ∧ FrSl w3 w3.heap.size A l ∧ BySl w3 w3.heap.size B b ∧ Below w.heap.size w w3) := ⟨hown3.sls Fr.cells_len, HL.out.1.ext hb3, HL.out.2.ext hb3, hb3⟩
      have hmn2 : mn ≤ 200 := by rw [hmn.out, ← hn.out]; exact hn200
      clear hown3 hb3
      go_wp2_with fail
      refine (hcpb.out w3 H3.out.2.2.1).mono ?_; rintro e w4 ⟨cv, rfl, hown4, hb4⟩
      obtain ⟨CB, cn, cc, rfl, hcn, hcle, hcmx⟩ := hown4.form
      have T4 : Hid (FI w w4 l A MA b B CB) := ⟨H3.out.2.1.ext hb4, H3.out.1.ext hb4, H3.out.2.2.1.ext hb4, hown4.sls encB_len, ext_under H3.out.2.2.2 (Nat.le_refl _) hb4⟩
      have hcn2 : cn ≤ 9000 := by rw [hcn.out, ← hm.out]; omega
      clear hown4 hb4
      go_wp2_with fail
      refine (print_v l MA mn mc w4 _ T4.out.ml hw hmn (by omega) HPR.out).mono ?_; rintro e w5 ⟨hb5, XA, xn, xc, rfl, ho5, hf5⟩
      have T5 := Lib.hid (T4.out.ext hb5)
      have HO5 := Lib.hid ho5
      obtain ⟨A0, n0, c0, hv0, hxn, hxle, hxmx, _⟩ := ho5.form
      cases hv0
      clear hb5 ho5 hf5
      go_wp2_with fail
      refine (rprint_v l A n cap w5 _ T5.out.sl hw hn (by omega) HPR.out).mono ?_; rintro e w6 ⟨hb6, YA, yn, yc, rfl, ho6, hf6⟩
      have T6 := Lib.hid (T5.out.ext hb6)
      have HO6 := Lib.hid (And.intro (HO5.out.ext hb6) ho6)
      obtain ⟨A0, n0, c0, hv0, hyn, hyle, hymx, _⟩ := ho6.form
      cases hv0
      clear hb6 ho6 hf6
      go_wp2_with fail
      refine (bsame_v p XA YA xn yn xc yc w6 (HO6.out.1.sl encB_len) (HO6.out.2.sl encB_len) hxn hyn (by omega) (by omega)).mono ?_; rintro e w7 ⟨rfl, hb7⟩
      have T7 := Lib.hid (T6.out.ext hb7)
      clear hb7
      go_wp2_with fail
      refine (rsame_v l l MA A mn n mc cap w7 true T7.out.ml T7.out.sl hmn hn (by omega) h63 (eqL_self l)).mono ?_; rintro e w8 ⟨rfl, hb8⟩
      have T8 := Lib.hid (T7.out.ext hb8)
      clear hb8
      go_wp2_with fail
      go_loopg [11] 2 (fun gk v wr => ∃ t : Nat, v = .int .i64 (t : Int) ∧ 2 ≤ t + gk ∧ t ≤ 2 ∧ Hid (FI w wr l A MA b B CB))
      case atStart => exact ⟨0, rfl, by omega, by omega, T8⟩
      case round =>
        obtain ⟨t, rfl, hgk, ht2, hT⟩ := hrel
        by_cases hlt : t < 2
        · have b3 : decide ((t : Int) < 2) = true := decide_eq_true (by omega)
          have b4 : decide (t < 2) = true := decide_eq_true hlt
          go_wp2_with fail
          refine (parse_v b CB cn cc wr _ hT.out.cl hcn hcle (by omega) HPA.out).mono ?_; rintro e wa ⟨hba, PA, pn, pc, rfl, hoa, hfa⟩
          have Ta := Lib.hid (hT.out.ext hba)
          have HOa := Lib.hid (And.intro hoa (And.intro hfa hba))
          have hpn : Hid (pn = P.length) := hoa.len
          have hpn2 : pn ≤ 2048 := by rw [hpn.out]; exact hYl.out
          clear hba hoa hfa
          go_wp2_with fail
          refine (rparse_v b B m cb wa _ Ta.out.bl hm hmc (by omega) HPA.out).mono ?_; rintro e wb ⟨hbb, QA, qn, qc, rfl, hob, hfb⟩
          have Tb := Lib.hid (Ta.out.ext hbb)
          have HOb := Lib.hid (And.intro (HOa.out.1.ext hbb) (And.intro hob (ext_under HOa.out.2.2 (Nat.le_refl _) hbb)))
          have hqn : Hid (qn = P.length) := hob.len
          have hqn2 : qn ≤ 2048 := by rw [hqn.out]; exact hYl.out
          clear hbb hob hfb
          go_wp2_with fail
          refine (rsame_v P P PA QA pn qn pc qc wb true (HOb.out.1.sl Fr.cells_len) (HOb.out.2.1.sl Fr.cells_len) hpn hqn (by unfold maxLen; omega) (by unfold maxLen; omega) (eqL_self P)).mono ?_; rintro e wc ⟨rfl, hbc⟩
          have Tc := Lib.hid (Tb.out.ext hbc)
          have HOc := Lib.hid (And.intro (HOb.out.1.ext hbc) (ext_under HOb.out.2.2 (Nat.le_refl _) hbc))
          clear hbc
          go_wp2_with fail
          refine (bsame_v b CB B cn m cc cb wc Tc.out.cl Tc.out.bl hcn hm (by unfold maxLen; omega) (by unfold maxLen; omega)).mono ?_; rintro e wd ⟨rfl, hbd⟩
          have HN : Hid (NI wr wd PA pn pc) := ⟨⟨P, HOc.out.1.ext hbd⟩, ext_under HOc.out.2 (Nat.le_refl _) hbd, HOa.out.2.1⟩
          clear hbd
          go_wp2_with fail
          generalize wr = Wt at *
          generalize gk = gq at *
          go_loopg [16] pn (fun gk v wr => ∃ j : Nat, v = .int .i64 (j : Int) ∧ pn ≤ j + gk ∧ j ≤ pn ∧ Hid (NI Wt wr PA pn pc))
          case atStart => exact ⟨0, rfl, by omega, by omega, HN⟩
          case round =>
            obtain ⟨j, rfl, hgj, hjn, hI⟩ := hrel
            by_cases hjl : j < pn
            · have k0 : (0 : Int) ≤ (j : Int) := Int.natCast_nonneg _
              have k2 : (j : Int) < (pn : Int) := by omega
              have k3 : decide (j < pn) = true := decide_eq_true hjl
              obtain ⟨g2, off2, u, hA, hc0, hf0, hset⟩ := hI.out.at_ hjl
              subst hA
              have HS := Lib.hid hset
              clear hset
              go_wp2
              go_roundg (gk - 1)
              case measure => omega
              case rel => exact ⟨j + 1, by go_num, by omega, by omega, HS.out (-1)⟩
            · have k2 : ¬ (j : Int) < (pn : Int) := by omega
              have k3 : decide (j < pn) = false := decide_eq_false hjl
              have HT9 := Lib.hid (hT.out.ext hI.out.be)
              go_wp2
              go_roundg (gq - 1)
              case measure => omega
              case rel => exact ⟨t + 1, by go_num, by omega, by omega, HT9⟩
        · have b3 : decide ((t : Int) < 2) = false := decide_eq_false (by omega)
          have b4 : decide (t < 2) = false := decide_eq_false hlt
          go_wp2
          go_ret
          exact ⟨rfl, hT.out.be⟩
set_option maxRecDepth 100000 in
theorem lifted (os : Os) (started : os.Started) (H : Type) (enc : TypeId × Value → H) :
    ReturnsInHanded {} Try.checked os 13 .any (Rows.fragFormsSpec.pre6 enc Try.prog Try.f13 Rows.fragFormsRow.domain false) (Rows.fragFormsSpec.post enc Try.prog Try.f13 false true false false) := by
  refine returnsInHanded_of_change_sized (C := Try.checked) own started (by kernel_rfl) Try.func13
    (ChangeSpec.witness6 (enc := enc) (C := Try.checked) false ⟨#[], #[.slice none 0 0, .slice none 0 0], []⟩ 8 (by kernel_rfl) (by kernel_rfl) (by kernel_rfl) (by kernel_rfl)) ?_
  intro W base args ds gs before hval0 hW hcnd hsz0 _
  have hval : ∀ (j : Nat) t v, Try.f13.params[j]? = some t → args[j]? = some v → Value.okWide Try.prog W .any base t v := hval0
  have hW' := hW
  obtain ⟨p, q, hA0, hV, rfl, hfz, hnd⟩ := hW
  have hA : DataW.TrodAll enc Try.prog W 0 (fun _ => true) true Try.f13.params.toList args.toList ds p := hA0
  have hsz : (DataW.weightsEach Try.prog (Try.f13.params.toList ++ []) (ds ++ gs)).all (· ≤ reachBytes) = true := hsz0
  rw [Try.params13] at hA hval hsz
  have hAll := hA
  obtain ⟨v0, vs0, d0, ds0, p0, q0, hargs, rfl, rfl, h0, r0⟩ := trodAll_cons hA
  obtain ⟨v1, vs1, d1, ds1, p1, q1, rfl, rfl, rfl, h1, r1⟩ := trodAll_cons r0
  obtain ⟨rfl, rfl, rfl⟩ := trodAll_nil r1
  obtain rfl : args = #[v0, v1] := by cases args; simp_all
  obtain ⟨rfl, rfl⟩ := trodVars_none hV
  obtain ⟨l_A, l, l_cap, rfl, l_sl, l_ok, l_le, l_max, l_reach, l_nil⟩ := open_sl Try.underlying60 (c := 8) (by kernel_rfl) (by decide) opens_fr (hval 0 60 v0 rfl rfl) h0 (light_of hsz (j := 0) rfl rfl)
  obtain ⟨b_A, b, b_cap, rfl, b_sl, b_ok, b_le, b_max, b_reach, b_nil⟩ := open_sl Try.underlying25 (c := 1) (by kernel_rfl) (by decide) opens_u8 (hval 1 25 v1 rfl rfl) h1 (light_of hsz (j := 1) rfl rfl)
  refine (walk l l_A l.length l_cap b b_A b.length b_cap W l_sl (Nat.le_trans l_le l_max) l_ok rfl b_sl rfl b_le).mono fun e W' ⟨he, bel⟩ => ?_
  subst he
  exact ⟨_, rfl, _, _, _, [], _, [], hW', trodAll_mk1 (shut_bool Try.underlying4 _), keep_args laidOut bel (by kernel_rfl) hAll, rfl, bel.frame _, fun h => by cases h⟩

theorem over : Rows.fragFormsRow.holds Try.pinned (OpenSpec.ofChange Rows.fragFormsSpec) :=
  OpenClaim.holds_of_wide 13 Try.f13 rfl rfl rfl rfl rfl rfl rfl ⟨rfl, rfl, rfl, rfl, rfl⟩ rfl rfl rfl rfl rfl (by kernel_rfl) Try.func13 (by kernel_rfl)
    (of_decide_eq_true (by kernel_rfl)) (by unfold Func.isWrapper; first | (rw [if_pos (by decide +kernel)]; kernel_rfl) | (rw [if_neg (by decide +kernel)]; exact ⟨rfl, rfl⟩))
    (fun os started H enc _ => lifted os started H enc)

theorem proved : Rows.FragFormsSaid := over
#print axioms proved
end Go.Proofs.Ytoneechcclndaaa.lawFF
