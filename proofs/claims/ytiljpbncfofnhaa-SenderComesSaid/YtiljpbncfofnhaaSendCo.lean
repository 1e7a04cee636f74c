/- SenderComes: to a receiver that takes the piece behind the last one it took, and acknowledges that, all bytes of all loads come, in order, whatever is lost at first: whatever the input, the law returns true and leaves its arguments as they were. -/
import Derived.Test.YtiljpbncfofnhaaScE
import Derived.Test.YtiljpbncfofnhaaSendOpen
import Derived.Outline
import Derived.BigQuiet
import Derived.Deep.QuietTactic
import Derived.Deep.RegionWith
import Derived.Deep.RegionHeld3
import Derived.Deep.DrawnRows
import Derived.Deep.LoopGhost
import Derived.Deep.DeepCutAuto
import Derived.Laws.EntriesVeiled
import Derived.Deep.RegionLaw
import Derived.Deep.RegionHeld
namespace Go.Proofs.Ytiljpbncfofnhaa.sendCo
open Go.RowKit Go.ChangeShapes Go.WideShapes Go.ChangeAt
set_option linter.unusedVariables false
set_option linter.unusedSimpArgs false
attribute [local go_sem ↓] Go.wp_at_zero Go.wp_at_succ
open Send JoinB JoinE Go.Proofs.Ytiljpbncfofnhaa.Comes

set_option maxRecDepth 100000 in
set_option maxHeartbeats 4000000 in
theorem walk (cs : List Ch) (A : Option Addr) (n cap : Nat) (gone : List Bool) (B : Option Addr) (m capb : Nat) (w : World) (hl : ChSl w w.heap.size A cs) (hok : ∀ c ∈ cs, Ch.Ok w c) (hn : Hid (n = cs.length)) (h63 : n ≤ maxLen)
    (hg : Sl w w.heap.size 1 encT B gone) (hgn : Hid (m = gone.length)) (hm63 : m ≤ maxLen) :
    Calls Try.prog 4 #[.slice A n cap, .slice B m capb] w fun e w' => e = .returned (.bool true) ∧ Below w.heap.size w w' := by
  have HL := Lib.hid (And.intro hl hok)
  have HG := Lib.hid hg
  clear hl hok hg
  by_cases h6 : 6 < n
  · have d6 : (6 : Int) < (n : Int) := by omega
    go_enter Try.func4, Try.ntmps4
    go_wp2_with fail
    refine (awake_any w).mono ?_; rintro e w1 ⟨rfl, hb1⟩
    have HB1 := Lib.hid hb1
    clear hb1
    go_wp2
    go_ret
    exact ⟨rfl, HB1.out⟩
  · have d6 : ¬ (6 : Int) < (n : Int) := by omega
    by_cases h3 : 300 < m
    · have d3 : (300 : Int) < (m : Int) := by omega
      go_enter Try.func4, Try.ntmps4
      go_wp2_with fail
      refine (awake_any w).mono ?_; rintro e w1 ⟨rfl, hb1⟩
      have HB1 := Lib.hid hb1
      clear hb1
      go_wp2
      go_ret
      exact ⟨rfl, HB1.out⟩
    · have d3 : ¬ (300 : Int) < (m : Int) := by omega
      have hgl : Hid (gone.length ≤ 300) := by rw [Hid, ← hgn.out]; omega
      have HLO := Lib.hid (fun (wx : World) (k : Nat) (hb : Below w.heap.size w wx) (hk : k ≤ 10000000) => lost_any gone B m capb k wx ((Sl.below HG.out hb).more hb.size) hgn (by omega) hk)
      go_enter Try.func4, Try.ntmps4
      go_wp2_with fail
      refine (awake_any w).mono ?_; rintro e w1 ⟨rfl, hb1⟩
      have HB1 := Lib.hid hb1
      clear hb1
      go_wp2_with fail
      refine (Send.new_any w1).mono ?_; rintro e w' ⟨rfl, rfl⟩
      go_wp2_with fail
      refine (JoinE.new_any _).mono ?_; rintro e w' ⟨rfl, rfl⟩
      obtain ⟨F0, HM⟩ := Mem.new HB1.out
      have HM := Lib.hid HM
      generalize (w1.alloc (.cells (mkS (.slice none 0 0) (.slice none 0 0) 0 0 0 2) 96)).alloc (.cells (mkJ 0 (.slice none 0 0)) 108) = w3 at *
      rw [show (w1.alloc (.cells (mkS (.slice none 0 0) (.slice none 0 0) 0 0 0 2) 96)).heap.size = w1.heap.size + 1 from by simp]
      obtain ⟨gj, hgj⟩ : ∃ gj, Hid (w1.heap.size + 1 = gj) := ⟨_, rfl⟩
      rw [hgj.out] at HM ⊢
      obtain ⟨gs, hgs⟩ : ∃ gs, Hid (w1.heap.size = gs) := ⟨_, rfl⟩
      rw [hgs.out] at HM ⊢
      go_wp2_with fail
      go_loopg [7, 8] n (fun gk v7 v8 wr => ∃ (j q : Nat) (c : Cm) (F : Nat → Prop) (jb : Value), n ≤ j + gk ∧ j ≤ n ∧ v7 = .int .i64 (q : Int) ∧ v8 = .int .i64 (j : Int) ∧ Hid (Idle j q c) ∧ Hid (Mem w wr gs gj F jb c none))
      case atStart => exact ⟨0, 0, _, F0, _, by omega, by omega, rfl, rfl, ⟨rfl, rfl, rfl, zok.1, by simp [z0], rfl, by omega⟩, HM.out⟩
      case round =>
        obtain ⟨j, q, c, F, jb, hgk, hj, rfl, rfl, hI, HM1⟩ := hrel
        by_cases hlt : j < n
        · have hlt' : j < cs.length := by rw [← hn.out]; exact hlt
          have hx := List.getElem?_eq_getElem hlt'
          have Hok := Lib.hid ((HL.out.2 _ (List.mem_of_getElem? hx)))
          have hsl := HL.out.1
          obtain ⟨rb, ro, hA, hrb, r0⟩ := ChSl.at_ hsl hx
          generalize cs[j] = x at *
          obtain ⟨xA, xn, xcap, b⟩ := x
          simp only at r0
          have hxn : Hid (xn = b.length) := Hok.out.n
          subst hA
          have hcell : Hid (∀ wx, Below w.heap.size w wx → wx.cell? ⟨rb, ro + j, none⟩ = some (.slice xA xn xcap)) := fun wx hb => (hb.cell (p := ⟨rb, ro + j, none⟩) hrb).trans r0
          have r1 : wr.cell? ⟨rb, ro + j, none⟩ = some (.slice xA xn xcap) := hcell.out _ HM1.out.below
          have b1 : (0 : Int) ≤ (j : Int) := Int.natCast_nonneg _
          have b2 : (j : Int) < (n : Int) := by omega
          have HBr := Lib.hid HM1.out.below
          have hx6 : j < 6 := by omega
          clear hx hsl r0 hrb hlt'
          by_cases h5 : 500 < xn
          · have d5 : (500 : Int) < (xn : Int) := by omega
            go_wp2
            go_ret
            exact ⟨rfl, HBr.out⟩
          · have d5 : ¬ (500 : Int) < (xn : Int) := by omega
            by_cases h0 : xn = 0
            · have d0 : ((xn : Int) == 0) = true := by rw [h0]; rfl
              clear h0
              go_wp2
              go_ret
              exact ⟨rfl, HBr.out⟩
            · have d0 : ((xn : Int) == 0) = false := by simp; omega
              have hbl : Hid (b.length ≤ 500 ∧ b ≠ []) := ⟨by rw [← hxn.out]; omega, fun e => h0 (by rw [hxn.out, e]; rfl)⟩
              have HS := Lib.hid (Split.split_any b xA xn xcap wr ((Sl.below Hok.out.sl HBr.out).more HBr.out.size) hxn (by omega) Hok.out.cap Hok.out.nil)
              clear h0
              go_wp2_with fail
              refine (HS.out).mono ?_; rintro e w4 ⟨A4, n4, c4, ks, rfl, hf4, hks⟩
              have HF4 := Lib.hid (And.intro hf4 hks)
              obtain ⟨e0, HGo0, hphi⟩ := hI.out.load hbl.out.2 hbl.out.1 hx6
              have e0 := Lib.hid e0
              have HGo := Lib.hid HGo0
              have Hphi := Lib.hid hphi
              clear hf4 hks HS HGo0 hphi
              go_wp2_with fail
              refine (calls_val (load_mem HM1.out hI.out.ok ks A4 n4 c4 HF4.out.1 (cks b) HF4.out.2 (by rw [cks_len]; have := hbl.out.1; omega) (by rw [cks_len]; have := hbl.out.1; have := hI.out.a; omega)) (by rw [e0.out])).mono ?_; rintro e w5 ⟨rfl, F5, hM5⟩
              have HM5 : Hid (Mem w w5 gs gj F5 jb (c.load b) none) := hM5.drop
              obtain ⟨N, hN⟩ : ∃ N, Hid (N = c.s.acked ∧ N ≤ 20 * j) := ⟨_, rfl, hI.out.a⟩
              rw [← hN.out.1] at HGo Hphi
              clear hM5 HM1 HF4 r1 HBr hI e0
              generalize c.load b = cl at *
              generalize gk = g0 at *
              generalize wr = W0 at *
              go_wp2_with fail
              go_loopg [7, 9, 10] 5600 (fun gk v7 v9 v10 wr => ∃ (q t gn gc : Nat) (c : Cm) (F : Nat → Prop) (jb : Value) (G : Option Addr), t + gk ≤ 5600 ∧ v7 = .int .i64 (q : Int) ∧ v9 = .slice G gn gc ∧ v10 = .int .i64 (t : Int) ∧ Hid (Phi N b c ≤ gk) ∧ Hid (Goes j N t q gn b c) ∧ Hid (Mem w wr gs gj F jb c G))
              case atStart => exact ⟨q, 0, 0, 0, cl, F5, jb, none, by omega, rfl, rfl, rfl, Hphi.out, HGo.out, HM5.out⟩
              case round =>
                clear HGo Hphi HM5
                obtain ⟨q1, t, gn, gc, c1, F1, jb1, G1, htg, rfl, rfl, rfl, hph, HGo, HM⟩ := hrel
                have t0 : (0 : Int) ≤ (t : Int) := Int.natCast_nonneg _
                have t1 : (t : Int) ≤ 5600 := by omega
                have HID := idle_mem HM.out HGo.out.inv.ok
                cases hi : idleB c1.s with
                | true =>
                  rw [hi] at HID
                  have HID := Lib.hid HID
                  obtain ⟨e1, hE⟩ := HGo.out.end_ hi hbl.out.1 hN.out.2 (by omega)
                  have hgn1 : gn = b.length := by rw [← e1]; exact HGo.out.got
                  have HE := Lib.hid hE
                  have hHM2 := fun mm => HM.out.ext (bdrewN (Below.refl wr.heap.size wr) mm)
                  have HM2 := Lib.hid hHM2
                  have hgb : Hid (∀ mm, BySl (wr.drewN mm) (wr.drewN mm).heap.size G1 b) := fun mm => by rw [← e1]; exact (hHM2 mm).got
                  clear hi e1 hE hHM2
                  go_wp2_with fail
                  refine (HID.out).mono ?_; rintro e w6 ⟨rfl, mm, rfl⟩
                  have HM3 := Lib.hid (HM2.out mm)
                  have hgb3 := Lib.hid (hgb.out mm)
                  have r1 : (wr.drewN mm).cell? ⟨rb, ro + j, none⟩ = some (.slice xA xn xcap) := hcell.out _ HM3.out.below
                  have hSA : Calls Try.prog 19 #[.slice G1 gn gc, .slice xA xn xcap] (wr.drewN mm) fun e w' => e = .returned (.bool true) ∧ ∃ k, w' = (wr.drewN mm).drewN k := by
                    have := Bytes.same_any b b G1 xA gc xcap (wr.drewN mm) hgb3.out ((Sl.below Hok.out.sl HM3.out.below).more HM3.out.below.size) (by have := hbl.out.1; unfold maxLen; omega) (by have := hbl.out.1; unfold maxLen; omega)
                    rw [Bytes.eqB_self] at this
                    rw [hgn1, hxn.out]
                    exact this
                  have HSA := Lib.hid hSA
                  clear HM2 hgb hgn1 hSA HID HM HGo hph
                  generalize wr.drewN mm = w6 at *
                  go_wp2_with fail
                  refine (HSA.out).mono ?_; rintro e w7 ⟨rfl, k7, rfl⟩
                  have HM4 := Lib.hid ((HM3.out.ext (bdrewN (Below.refl w6.heap.size w6) k7)).drop)
                  clear HM3 HSA r1 hgb3
                  generalize w6.drewN k7 = w7 at *
                  go_wp2
                  go_roundg (g0 - 1)
                  case measure => omega
                  case rel => exact ⟨j + 1, q1, _, F1, jb1, by omega, by omega, rfl, by go_num, HE.out, HM4.out⟩
                | false =>
                  rw [hi] at HID
                  have HID := Lib.hid HID
                  have hless := Lib.hid (round_less (gone := gone) HGo.out.inv hbl.out.1 hi hgl.out)
                  have hgk1 : 1 ≤ gk := by have := hless.out; have := hph.out; omega
                  have hHM2 := fun mm => HM.out.ext (bdrewN (Below.refl wr.heap.size wr) mm)
                  have HM2 := Lib.hid hHM2
                  have d6k : ¬ (6000 : Int) < (t : Int) := by omega
                  clear hi hHM2 HM
                  go_wp2_with fail
                  refine (HID.out).mono ?_; rintro e w6 ⟨rfl, mm, rfl⟩
                  have HM3 := Lib.hid (HM2.out mm)
                  clear HM2 HID
                  generalize wr.drewN mm = w6 at *
                  go_wp2_with fail
                  refine (tick_mem HM3.out HGo.out.inv.ok).mono ?_; rintro e w7 ⟨A7, n7, p7, F7, ps7, rfl, O7⟩
                  have O7 := Lib.hid O7
                  have tok := Lib.hid ((tickS_facts c1.s).2.2.2 HGo.out.inv.ok)
                  go_wp2_with fail
                  refine (send_mem O7.out.mem tok.out).mono ?_; rintro e w8 ⟨A8, n8, p8, F8, ps8, rfl, O8⟩
                  have O8 := Lib.hid O8
                  have hlen : Hid (ps7.length ≤ 4 ∧ ps8.length ≤ 4) := by
                    have h1 := congrArg List.length O7.out.core
                    have h2 := congrArg List.length O8.out.core
                    have h3 := tok.out.fl
                    have h4 := (sendK_le (tickS c1.s)).2 h3
                    rw [List.length_map] at h1 h2
                    have h5 : (tickO c1.s).length ≤ 4 := by
                      rcases tickO_or c1.s with e | e
                      · rw [e]; simp
                      · rw [e, numd_len]; exact HGo.out.inv.ok.fl
                    have h6 : (sendO (tickS c1.s)).length ≤ 4 := by
                      unfold sendO
                      rw [numd_len, List.length_take]; omega
                    exact ⟨by omega, by rw [h2]; exact h6⟩
                  obtain ⟨i0, hi0, hz0, hz1, hz2⟩ := info_parts pcCloneInfo
                  have a1 : Hid (ps7.length + ps8.length ≤ maxLen) := by have := hlen.out; rw [Hid]; unfold maxLen; omega
                  have a2 : Hid ((ps7.length + ps8.length) * 40 ≤ 140737488355328) := by have := hlen.out; rw [Hid]; omega
                  have own8 := Lib.hid (O7.out.own.own.chg O8.out.chg (fun k hk => (O7.out.own.blk k hk).2))
                  have sl8 := Lib.hid (O8.out.own.own.sl Pc.cells_len)
                  go_wp2_with (at_builtin; refine wpList_append_a _ rfl _ _ _ rfl 57 i0 _ 3 40 Try.underlying40 hi0 hz0 hz1 hz2 rfl (by decide) Pc.cells_len Pc.cells_one _ ps7 (by rfl) own8.out _ A8 ps8 n8 p8 (by rfl) O8.out.n.out sl8.out a1.out a2.out ?_; intro v9 w9 hown9 hchg9 hat9; obtain ⟨A9, n9, p9, rfl, -, -, -, -⟩ := hown9.form; have HJ := Lib.hid (out_join HM3.out O7.out O8.out hown9 hchg9 hat9); have hn9 : Hid (n9 = (ps7 ++ ps8).length) := hown9.len; have hcore : Hid ((ps7 ++ ps8).map Pc.core = outOf c1.s) := (by rw [Hid, List.map_append, O7.out.core, O8.out.core]; rfl); clear hown9 hchg9 hat9)
                  have HMg : Hid (Mem w w9 gs gj F8 jb1 c1.go G1) := HJ.out.1
                  have HPg : Hid (Pcs w9 (Mine F8 gj jb1) A9 (ps7 ++ ps8)) := HJ.out.2
                  have hl9 : Hid (n9 ≤ 8) := by have := hlen.out; have h2 := hn9.out; rw [List.length_append] at h2; rw [Hid]; omega
                  clear HJ O7 O8 own8 sl8 a1 a2 hi0 hz0 hz1 hz2 HM3 tok hlen
                  generalize ps7 ++ ps8 = ps at *
                  generalize gk = g1 at *
                  generalize wr = W1 at *
                  go_loopg [7, 9, 12] n9 (fun gk v7 v9 v12 wr => ∃ (k q gn gc : Nat) (c : Cm) (F : Nat → Prop) (jb : Value) (G : Option Addr), n9 ≤ k + gk ∧ k ≤ n9 ∧ v7 = .int .i64 (q : Int) ∧ v9 = .slice G gn gc ∧ v12 = .int .i64 (k : Int) ∧ Hid (Hears gone c1 k q gn c) ∧ Hid (Mem w wr gs gj F jb c G) ∧ Hid (Pcs wr (Mine F gj jb) A9 ps))
                  case atStart => exact ⟨0, q1, gn, gc, c1.go, F8, jb1, G1, by omega, by omega, rfl, rfl, rfl, ⟨rfl, HGo.out.n, by have := HGo.out.n; omega, HGo.out.got⟩, HMg.out, HPg.out⟩
                  case round =>
                    clear HMg HPg
                    obtain ⟨k, q, gn', gc', c, F, jb, G, hgk3, hkk, rfl, rfl, rfl, hH, HM, HP⟩ := hrel
                    have l9 := hl9.out
                    have k0 : (0 : Int) ≤ (k : Int) := Int.natCast_nonneg _
                    by_cases hkn : k < n9
                    · have hkl : k < ps.length := by rw [← hn9.out]; exact hkn
                      have hx := List.getElem?_eq_getElem hkl
                      obtain ⟨pb, po, rfl, hpb, pc⟩ := Sl.at_ HP.out.sl hx
                      have p0 := pc 0 _ rfl
                      have p1 := pc 1 _ rfl
                      have p2 := pc 2 _ rfl
                      simp only [Nat.add_zero] at p0 p1 p2
                      have Hrd := Lib.hid (HP.out.rd _ (List.mem_of_getElem? hx))
                      have Hdp := Lib.hid (HP.out.dp _ (List.mem_of_getElem? hx))
                      have hpo : (outOf c1.s)[k]? = some (ps[k]).core := by rw [← hcore.out, List.getElem?_map, hx]; rfl
                      have HA := Lib.hid (at_piece (gone := gone) HGo.out.inv hbl.out.1 hpo)
                      rw [← hH.out.eq] at HA
                      generalize ps[k] = p at *
                      have k1 : (k : Int) < (n9 : Int) := by omega
                      have hq : Hid (q ≤ 900000) := by
                        rw [Hid]
                        have h1 := hH.out.q
                        have h2 := HGo.out.n
                        have h3 := HGo.out.q
                        omega
                      have q0 : (q : Int) ≤ 900000 := by have := hq.out; omega
                      have q00 : (0 : Int) ≤ (q : Int) := Int.natCast_nonneg _
                      have x1 : IntKind.i64.wrap ((q : Int) + 1) = (q : Int) + 1 := IntWalk.i64_in _ (by omega)
                      have x2 : IntKind.i64.wrap ((q : Int) + 1 + 1) = (q : Int) + 1 + 1 := IntWalk.i64_in _ (by omega)
                      have HL1 : Hid (Calls Try.prog 35 #[.slice B m capb, .int .i64 ((q : Int) + 1)] wr fun e w' => e = .returned (.bool (lostB gone (q + 1))) ∧ wr = w') := HLO.out wr (q + 1) HM.out.below (by omega)
                      have hcn := hH.out.n
                      clear hx pc hkl hpo hpb
                      cases hb1 : lostB gone (q + 1) with
                      | true =>
                        rw [hb1] at HL1
                        have HE : Hid (c.hear gone p.core = { c with n := q + 1 }) := by rw [Hid, hear_lost (by rw [hcn]; exact hb1), hcn]
                        clear hb1 hcn p0 p1 p2
                        go_wp2_with fail
                        refine (HL1.out).mono ?_; rintro e w' ⟨rfl, rfl⟩
                        go_wp2
                        go_roundg (gk - 1)
                        case measure => omega
                        case rel => exact ⟨k + 1, q + 1, gn', gc', { c with n := q + 1 }, F, jb, G, by omega, by omega, by go_num, rfl, by go_num, ⟨by rw [HA.out.2.2, HE.out], rfl, by have := hH.out.q; omega, hH.out.got⟩, HM.out.setn _, HP.out⟩
                      | false =>
                        rw [hb1] at HL1
                        have Hb1 := Lib.hid hb1
                        have HT := Lib.hid (take_mem (w := wr.drew) (HM.out.ext ((Below.refl _ _).drew)) p (Hrd.out.ext ((Below.refl _ _).drew)) (fun k' hk' e => (Hdp.out k' hk').1 (.inr (.inl e))) (tk_le HA.out.1) (by have := acc_le HA.out.1 hbl.out.1; omega))
                        obtain ⟨wh, hwh⟩ : ∃ wh, Hid (tkWhole p.last (errOf c p.core) = wh) := ⟨_, rfl⟩
                        obtain ⟨cd, hcd⟩ : ∃ cd, Hid (tkCode (errOf c p.core) = cd) := ⟨_, rfl⟩
                        rw [hwh.out, hcd.out] at HT
                        have Hcn := Lib.hid hcn
                        clear hb1 hcn
                        go_wp2_with fail
                        refine (HL1.out).mono ?_; rintro e w' ⟨rfl, rfl⟩
                        go_upto_region 28 with fail
                        go_cut [13, 14] (fun s13 s14 wy => ∃ (X : Option Addr) (n5 x5 : Nat) (jb5 : Value), s13 = .slice X n5 x5 ∧ s14 = .bool wh ∧ Hid (n5 = (tkOut c.acc p.bs p.last (errOf c p.core)).length) ∧ Hid (Mem w wy gs gj F jb5 (c.took p.core) (if wh then X else G)) ∧ Hid (Pcs wy (Mine F gj jb5) (some ⟨pb, po, none⟩) ps))
                        case first =>
                          refine wp_region_held_drew (S := fun w' => w'.cell? ⟨pb, po + k * 3, none⟩ = some (.int .i64 p.seq) ∧ w'.cell? ⟨pb, po + k * 3 + 1, none⟩ = some (.bool p.last) ∧ w'.cell? ⟨pb, po + k * 3 + 2, none⟩ = some (.slice p.A p.n p.cap)) (by kernel_rfl) (show _ from ⟨p0, p1, p2⟩) (fun hHeld => ?_)
                          try simp only [Act.put, List.setIfInBounds_toArray, List.set_cons_zero, List.set_cons_succ]
                          (refine wpAnyH_take (i := 0) (oi := { dst := some 86, op := _, type := _, pos := _, after := _, guard := _ }) (v := ?_) rfl (by kernel_rfl) (by kernel_rfl) (by kernel_rfl) (fun _ _ _ h => h) (Or.inl ⟨by kernel_rfl, (by intro W' hS'; obtain ⟨y0, y1, y2⟩ := hS'; go_simp; try with_reducible rfl)⟩) (by assumption) ?_; (try simp only [Act.put, List.setIfInBounds_toArray, List.set_cons_zero, List.set_cons_succ]))
                          (refine wpAnyH_take (i := 1) (oi := { dst := some 87, op := _, type := _, pos := _, after := _, guard := _ }) (v := ?_) rfl (by kernel_rfl) (by kernel_rfl) (by kernel_rfl) (fun _ _ _ h => h) (Or.inl ⟨by kernel_rfl, (by intro W' hS'; obtain ⟨y0, y1, y2⟩ := hS'; go_simp; try with_reducible rfl)⟩) (by assumption) ?_; (try simp only [Act.put, List.setIfInBounds_toArray, List.set_cons_zero, List.set_cons_succ]))
                          (refine wpAnyH_take (i := 2) (oi := { dst := some 88, op := _, type := _, pos := _, after := _, guard := _ }) (v := ?_) rfl (by kernel_rfl) (by kernel_rfl) (by kernel_rfl) (fun _ _ _ h => h) (Or.inl ⟨by kernel_rfl, (by intro W' hS'; obtain ⟨y0, y1, y2⟩ := hS'; go_simp; try with_reducible rfl)⟩) (by assumption) ?_; (try simp only [Act.put, List.setIfInBounds_toArray, List.set_cons_zero, List.set_cons_succ]))
                          (refine wpAnyH_take (i := 3) (oi := { dst := some 89, op := _, type := _, pos := _, after := _, guard := _ }) (v := ?_) rfl (by kernel_rfl) (by kernel_rfl) (by kernel_rfl) (fun _ _ _ h => h) (Or.inl ⟨by kernel_rfl, (by intro W' hS'; obtain ⟨y0, y1, y2⟩ := hS'; go_simp; try with_reducible rfl)⟩) (by assumption) ?_; (try simp only [Act.put, List.setIfInBounds_toArray, List.set_cons_zero, List.set_cons_succ]))
                          (refine wpAnyH_take (i := 4) (oi := { dst := some 90, op := _, type := _, pos := _, after := _, guard := _ }) (v := ?_) rfl (by kernel_rfl) (by kernel_rfl) (by kernel_rfl) (fun _ _ _ h => h) (Or.inl ⟨by kernel_rfl, (by intro W' hS'; obtain ⟨y0, y1, y2⟩ := hS'; go_simp; try with_reducible rfl)⟩) (by assumption) ?_; (try simp only [Act.put, List.setIfInBounds_toArray, List.set_cons_zero, List.set_cons_succ]))
                          (refine wpAnyH_take (i := 5) (oi := { dst := some 91, op := _, type := _, pos := _, after := _, guard := _ }) (v := ?_) rfl (by kernel_rfl) (by kernel_rfl) (by kernel_rfl) (fun _ _ _ h => h) (Or.inl ⟨by kernel_rfl, (by intro W' hS'; obtain ⟨y0, y1, y2⟩ := hS'; go_simp; try with_reducible rfl)⟩) (by assumption) ?_; (try simp only [Act.put, List.setIfInBounds_toArray, List.set_cons_zero, List.set_cons_succ]))
                          (refine wpAnyH_take (i := 6) (oi := { dst := some 92, op := _, type := _, pos := _, after := _, guard := _ }) (v := ?_) rfl (by kernel_rfl) (by kernel_rfl) (by kernel_rfl) (fun _ _ _ h => h) (Or.inl ⟨by kernel_rfl, (by intro W' hS'; obtain ⟨y0, y1, y2⟩ := hS'; go_simp; try with_reducible rfl)⟩) (by assumption) ?_; (try simp only [Act.put, List.setIfInBounds_toArray, List.set_cons_zero, List.set_cons_succ]))
                          (refine wpAnyH_take (i := 7) (oi := { dst := some 93, op := _, type := _, pos := _, after := _, guard := _ }) (v := ?_) rfl (by kernel_rfl) (by kernel_rfl) (by kernel_rfl) (fun _ _ _ h => h) (Or.inl ⟨by kernel_rfl, (by intro W' hS'; obtain ⟨y0, y1, y2⟩ := hS'; go_simp; try with_reducible rfl)⟩) (by assumption) ?_; (try simp only [Act.put, List.setIfInBounds_toArray, List.set_cons_zero, List.set_cons_succ]))
                          (refine wpAnyH_take (i := 8) (oi := { dst := some 94, op := _, type := _, pos := _, after := _, guard := _ }) (v := ?_) rfl (by kernel_rfl) (by kernel_rfl) (by kernel_rfl) (fun _ _ _ h => h) (Or.inl ⟨by kernel_rfl, (by intro W' hS'; obtain ⟨y0, y1, y2⟩ := hS'; go_simp; try with_reducible rfl)⟩) (by assumption) ?_; (try simp only [Act.put, List.setIfInBounds_toArray, List.set_cons_zero, List.set_cons_succ]))
                          (refine wpAnyH_take (i := 9) (oi := { dst := some 95, op := _, type := _, pos := _, after := _, guard := _ }) (v := ?_) rfl (by kernel_rfl) (by kernel_rfl) (by kernel_rfl) (fun _ _ _ h => h) (Or.inl ⟨by kernel_rfl, (by intro W' hS'; obtain ⟨y0, y1, y2⟩ := hS'; go_simp; try with_reducible rfl)⟩) (by assumption) ?_; (try simp only [Act.put, List.setIfInBounds_toArray, List.set_cons_zero, List.set_cons_succ]))
                          (refine wpAnyH_take (i := 10) (oi := { dst := some 96, op := _, type := _, pos := _, after := _, guard := _ }) (v := ?_) rfl (by kernel_rfl) (by kernel_rfl) (by kernel_rfl) (fun _ _ _ h => h) (Or.inl ⟨by kernel_rfl, (by intro W' hS'; obtain ⟨y0, y1, y2⟩ := hS'; go_simp; try with_reducible rfl)⟩) (by assumption) ?_; (try simp only [Act.put, List.setIfInBounds_toArray, List.set_cons_zero, List.set_cons_succ]))
                          (refine wpAnyH_take (i := 11) (oi := { dst := some 97, op := _, type := _, pos := _, after := _, guard := _ }) (v := ?_) rfl (by kernel_rfl) (by kernel_rfl) (by kernel_rfl) (fun _ _ _ h => h) (Or.inl ⟨by kernel_rfl, (by intro W' hS'; obtain ⟨y0, y1, y2⟩ := hS'; go_simp; try with_reducible rfl)⟩) (by assumption) ?_; (try simp only [Act.put, List.setIfInBounds_toArray, List.set_cons_zero, List.set_cons_succ]))
                          (refine wpAnyH_take (i := 12) (oi := { dst := some 98, op := _, type := _, pos := _, after := _, guard := _ }) (v := ?_) rfl (by kernel_rfl) (by kernel_rfl) (by kernel_rfl) (fun _ _ _ h => h) (Or.inl ⟨by kernel_rfl, (by intro W' hS'; obtain ⟨y0, y1, y2⟩ := hS'; go_simp; try with_reducible rfl)⟩) (by assumption) ?_; (try simp only [Act.put, List.setIfInBounds_toArray, List.set_cons_zero, List.set_cons_succ]))
                          (refine wpAnyH_take (i := 13) (oi := { dst := some 99, op := _, type := _, pos := _, after := _, guard := _ }) (v := ?_) rfl (by kernel_rfl) (by kernel_rfl) (by kernel_rfl) (fun _ _ _ h => h) (Or.inl ⟨by kernel_rfl, (by intro W' hS'; obtain ⟨y0, y1, y2⟩ := hS'; go_simp; try with_reducible rfl)⟩) (by assumption) ?_; (try simp only [Act.put, List.setIfInBounds_toArray, List.set_cons_zero, List.set_cons_succ]))
                          (refine wpAnyH_take (i := 14) (oi := { dst := some 100, op := _, type := _, pos := _, after := _, guard := _ }) (v := ?_) rfl (by kernel_rfl) (by kernel_rfl) (by kernel_rfl) (fun _ _ _ h => h) (Or.inl ⟨by kernel_rfl, (by intro W' hS'; obtain ⟨y0, y1, y2⟩ := hS'; go_simp; try with_reducible rfl)⟩) (by assumption) ?_; (try simp only [Act.put, List.setIfInBounds_toArray, List.set_cons_zero, List.set_cons_succ]))
                          (refine wpAnyH_take (i := 15) (oi := { dst := some 101, op := _, type := _, pos := _, after := _, guard := _ }) (v := ?_) rfl (by kernel_rfl) (by kernel_rfl) (by kernel_rfl) (fun _ _ _ h => h) (Or.inl ⟨by kernel_rfl, (by intro W' hS'; obtain ⟨y0, y1, y2⟩ := hS'; go_simp; try with_reducible rfl)⟩) (by assumption) ?_; (try simp only [Act.put, List.setIfInBounds_toArray, List.set_cons_zero, List.set_cons_succ]))
                          refine wpAnyH_ready (rs := [16]) (by kernel_rfl) (by simp) ?_
                          refine AllReadyH.cons (o := { dst := some 102, op := _, type := _, pos := _, after := _, guard := _ }) rfl (fun K hK => ?_) AllReadyH.nil
                          go_simp
                          refine (HT.out).mono ?_; rintro e w5 ⟨X, n5, x5, jb5, rfl, hX, hM5, hC5, hQ5⟩
                          have hnm : ∀ i, wr.cell? ⟨pb, po + k * 3 + i, none⟩ = w5.cell? ⟨pb, po + k * 3 + i, none⟩ := fun i => ((hC5.undrewN (n := 1)).cell (p := ⟨pb, po + k * 3 + i, none⟩) (HP.out.da pb rfl).2 (fun h => (HP.out.da pb rfl).1 (.inr h))).symm
                          have hS5 : w5.cell? ⟨pb, po + k * 3, none⟩ = some (.int .i64 p.seq) ∧ w5.cell? ⟨pb, po + k * 3 + 1, none⟩ = some (.bool p.last) ∧ w5.cell? ⟨pb, po + k * 3 + 2, none⟩ = some (.slice p.A p.n p.cap) := ⟨(hnm 0).symm.trans p0, (hnm 1).symm.trans p1, (hnm 2).symm.trans p2⟩
                          have HC := Lib.hid (And.intro hX (And.intro hM5 (HP.out.chg (hC5.undrewN (n := 1)) (fun k' hk' => .inr hk') hQ5)))
                          refine hK.out _ _ hS5 (fun hHeld2 => ?_)
                          clear hK K hX hM5 hC5 hQ5 HT hnm
                          try simp only [Act.put, List.setIfInBounds_toArray, List.set_cons_zero, List.set_cons_succ]
                          (refine wpAnyH_take (i := 17) (oi := { dst := some 85, op := _, type := _, pos := _, after := _, guard := _ }) (v := ?_) rfl (by kernel_rfl) (by kernel_rfl) (by kernel_rfl) (fun _ _ _ h => h) (Or.inl ⟨by kernel_rfl, (by intro W' hS'; obtain ⟨y0, y1, y2⟩ := hS'; go_simp; try with_reducible rfl)⟩) (by assumption) ?_; (try simp only [Act.put, List.setIfInBounds_toArray, List.set_cons_zero, List.set_cons_succ]))
                          (refine wpAnyH_take (i := 18) (oi := { dst := some 103, op := _, type := _, pos := _, after := _, guard := _ }) (v := ?_) rfl (by kernel_rfl) (by kernel_rfl) (by kernel_rfl) (fun _ _ _ h => h) (Or.inl ⟨by kernel_rfl, (by intro W' hS'; obtain ⟨y0, y1, y2⟩ := hS'; go_simp; try with_reducible rfl)⟩) (by assumption) ?_; (try simp only [Act.put, List.setIfInBounds_toArray, List.set_cons_zero, List.set_cons_succ]))
                          (refine wpAnyH_take (i := 19) (oi := { dst := some 104, op := _, type := _, pos := _, after := _, guard := _ }) (v := ?_) rfl (by kernel_rfl) (by kernel_rfl) (by kernel_rfl) (fun _ _ _ h => h) (Or.inl ⟨by kernel_rfl, (by intro W' hS'; obtain ⟨y0, y1, y2⟩ := hS'; go_simp; try with_reducible rfl)⟩) (by assumption) ?_; (try simp only [Act.put, List.setIfInBounds_toArray, List.set_cons_zero, List.set_cons_succ]))
                          (refine wpAnyH_take (i := 20) (oi := { dst := some 105, op := _, type := _, pos := _, after := _, guard := _ }) (v := ?_) rfl (by kernel_rfl) (by kernel_rfl) (by kernel_rfl) (fun _ _ _ h => h) (Or.inl ⟨by kernel_rfl, (by intro W' hS'; obtain ⟨y0, y1, y2⟩ := hS'; go_simp; try with_reducible rfl)⟩) (by assumption) ?_; (try simp only [Act.put, List.setIfInBounds_toArray, List.set_cons_zero, List.set_cons_succ]))
                          (refine wpAnyH_take (i := 21) (oi := { dst := some 13, op := _, type := _, pos := _, after := _, guard := _ }) (v := ?_) rfl (by kernel_rfl) (by kernel_rfl) (by kernel_rfl) (fun _ _ _ h => h) (Or.inl ⟨by kernel_rfl, (by intro W' hS'; obtain ⟨y0, y1, y2⟩ := hS'; go_simp; try with_reducible rfl)⟩) (by assumption) ?_; (try simp only [Act.put, List.setIfInBounds_toArray, List.set_cons_zero, List.set_cons_succ]))
                          (refine wpAnyH_take (i := 22) (oi := { dst := some 14, op := _, type := _, pos := _, after := _, guard := _ }) (v := ?_) rfl (by kernel_rfl) (by kernel_rfl) (by kernel_rfl) (fun _ _ _ h => h) (Or.inl ⟨by kernel_rfl, (by intro W' hS'; obtain ⟨y0, y1, y2⟩ := hS'; go_simp; try with_reducible rfl)⟩) (by assumption) ?_; (try simp only [Act.put, List.setIfInBounds_toArray, List.set_cons_zero, List.set_cons_succ]))
                          (refine wpAnyH_take (i := 23) (oi := { dst := some 15, op := _, type := _, pos := _, after := _, guard := _ }) (v := ?_) rfl (by kernel_rfl) (by kernel_rfl) (by kernel_rfl) (fun _ _ _ h => h) (Or.inl ⟨by kernel_rfl, (by intro W' hS'; obtain ⟨y0, y1, y2⟩ := hS'; go_simp; try with_reducible rfl)⟩) (by assumption) ?_; (try simp only [Act.put, List.setIfInBounds_toArray, List.set_cons_zero, List.set_cons_succ]))
                          refine wpAnyH_done (by kernel_rfl) ?_ _
                          go_wp2_with fail
                          go_meet
                          exact ⟨X, n5, x5, jb5, rfl, rfl, HC.out.1, HC.out.2.1, HC.out.2.2⟩
                        case rest =>
                          obtain ⟨X, n5, x5, jb5, rfl, rfl, hX5, HM5, HP5⟩ := hcut
                          have hHI := hear_inv (gone := gone) HA.out.1 hbl.out.1 HA.out.2.1
                          obtain ⟨tk, htk⟩ : ∃ tk, Hid (tkOf c p.core = tk) := ⟨_, rfl⟩
                          have Htk : Hid (tk ≤ 1000000 ∧ ackE c.s (tk : Int) = 0 ∧ c.s.Ok) := by
                            have h1 := hHI.2.2.2.2.2.2.1
                            rw [htk.out] at h1
                            refine ⟨?_, ack_fine HA.out.1 h1, HA.out.1.ok⟩
                            have h2 := HA.out.1.ok.all
                            have h3 : c.s.last = c.s.acked + c.s.fl.length := rfl
                            omega
                          have htk0 : (tk : Int) ≤ 1000000 := by have := Htk.out.1; omega
                          have htk1 : (0 : Int) ≤ (tk : Int) := Int.natCast_nonneg _
                          have HL2 : Hid (Calls Try.prog 35 #[.slice B m capb, .int .i64 ((q : Int) + 1 + 1)] wc fun e w' => e = .returned (.bool (lostB gone (q + 2))) ∧ wc = w') := HLO.out wc (q + 2) HM5.out.below (by omega)
                          clear hHI HT HM HP p0 p1 p2 HL1
                          cases wh with
                          | true =>
                            have HM6 : Hid (Mem w wc gs gj F jb5 (c.took p.core) X) := by have h := HM5.out; rw [if_pos rfl] at h; exact h
                            have hg5 : Hid (n5 = (c.took p.core).got.length) := hX5.out.trans (congrArg List.length (got_whole (p := p.core) hwh.out).symm)
                            clear HM5 hX5
                            cases hb2 : lostB gone (q + 2) with
                            | true =>
                              rw [hb2] at HL2
                              have HE : Hid (c.hear gone p.core = { c.took p.core with n := q + 2 }) := by rw [Hid, hear_took (by rw [Hcn.out]; exact Hb1.out) (by rw [Hcn.out]; exact hb2), Hcn.out]
                              clear hb2
                              go_wp2_with fail
                              refine (HL2.out).mono ?_; rintro e w' ⟨rfl, rfl⟩
                              go_wp2
                              go_roundg (gk - 1)
                              case measure => omega
                              case rel => exact ⟨k + 1, q + 2, n5, x5, { c.took p.core with n := q + 2 }, F, jb5, X, by omega, by omega, by go_num, rfl, by go_num, ⟨by rw [HA.out.2.2, HE.out], rfl, by have := hH.out.q; omega, hg5.out⟩, HM6.out.setn _, HP5.out⟩
                            | false =>
                              rw [hb2] at HL2
                              have HE : Hid (c.hear gone p.core = { c.took p.core with s := ackS c.s (tk : Int), n := q + 2 }) := by rw [Hid, hear_ack (by rw [Hcn.out]; exact Hb1.out) (by rw [Hcn.out]; exact hb2), Hcn.out, htk.out]
                              have HTK : Hid (Calls Try.prog 37 #[.pointer (some ⟨gj, 0, none⟩)] wc fun e w' => e = .returned (.int .i64 (tk : Int)) ∧ wc = w') := by
                                have h := taken_mem HM6.out
                                have e : ((c.took p.core).tk : Int) = (tk : Int) := by rw [← htk.out]; rfl
                                rw [e] at h
                                exact h
                              have HAK := Lib.hid (calls_val (v' := .int .i64 0) (ack_mem HM6.out Htk.out.2.2 (tk : Int) (by omega) (by omega)) (by
                                have h := Htk.out.2.1
                                show Value.int .i64 (ackE c.s (tk : Int)) = _
                                rw [h]))
                              clear hb2
                              go_wp2_with fail
                              refine (HL2.out).mono ?_; rintro e w' ⟨rfl, rfl⟩
                              go_wp2_with fail
                              refine (HTK.out).mono ?_; rintro e w' ⟨rfl, rfl⟩
                              go_wp2_with fail
                              refine (HAK.out).mono ?_; rintro e w6 ⟨rfl, F6, hM6, hC6, hG6⟩
                              have HM7 := Lib.hid hM6
                              have HP7 : Hid (Pcs w6 (Mine F6 gj jb5) (some ⟨pb, po, none⟩) ps) := HP5.out.chg hC6 (fun k' hk' => .inl hk') (fun k' hk' => by
                                rcases hk' with hk' | hk'
                                · rcases hG6 k' hk' with h' | h'
                                  · exact .inl (.inl h')
                                  · exact .inr h'
                                · exact .inl (.inr hk'))
                              clear hM6 hC6 hG6 HAK HTK HL2
                              go_wp2
                              go_roundg (gk - 1)
                              case measure => omega
                              case rel => exact ⟨k + 1, q + 2, n5, x5, { c.took p.core with s := ackS c.s (tk : Int), n := q + 2 }, F6, jb5, X, by omega, by omega, by go_num, rfl, by go_num, ⟨by rw [HA.out.2.2, HE.out], rfl, by have := hH.out.q; omega, hg5.out⟩, HM7.out.setn _, HP7.out⟩
                          | false =>
                            have HM6 : Hid (Mem w wc gs gj F jb5 (c.took p.core) G) := by have h := HM5.out; rw [if_neg Bool.false_ne_true] at h; exact h
                            have hg5 : Hid (gn' = (c.took p.core).got.length) := hH.out.got.trans (congrArg List.length (got_part (p := p.core) hwh.out).symm)
                            clear HM5 hX5
                            cases hb2 : lostB gone (q + 2) with
                            | true =>
                              rw [hb2] at HL2
                              have HE : Hid (c.hear gone p.core = { c.took p.core with n := q + 2 }) := by rw [Hid, hear_took (by rw [Hcn.out]; exact Hb1.out) (by rw [Hcn.out]; exact hb2), Hcn.out]
                              clear hb2
                              go_wp2_with fail
                              refine (HL2.out).mono ?_; rintro e w' ⟨rfl, rfl⟩
                              go_wp2
                              go_roundg (gk - 1)
                              case measure => omega
                              case rel => exact ⟨k + 1, q + 2, gn', gc', { c.took p.core with n := q + 2 }, F, jb5, G, by omega, by omega, by go_num, rfl, by go_num, ⟨by rw [HA.out.2.2, HE.out], rfl, by have := hH.out.q; omega, hg5.out⟩, HM6.out.setn _, HP5.out⟩
                            | false =>
                              rw [hb2] at HL2
                              have HE : Hid (c.hear gone p.core = { c.took p.core with s := ackS c.s (tk : Int), n := q + 2 }) := by rw [Hid, hear_ack (by rw [Hcn.out]; exact Hb1.out) (by rw [Hcn.out]; exact hb2), Hcn.out, htk.out]
                              have HTK : Hid (Calls Try.prog 37 #[.pointer (some ⟨gj, 0, none⟩)] wc fun e w' => e = .returned (.int .i64 (tk : Int)) ∧ wc = w') := by
                                have h := taken_mem HM6.out
                                have e : ((c.took p.core).tk : Int) = (tk : Int) := by rw [← htk.out]; rfl
                                rw [e] at h
                                exact h
                              have HAK := Lib.hid (calls_val (v' := .int .i64 0) (ack_mem HM6.out Htk.out.2.2 (tk : Int) (by omega) (by omega)) (by
                                have h := Htk.out.2.1
                                show Value.int .i64 (ackE c.s (tk : Int)) = _
                                rw [h]))
                              clear hb2
                              go_wp2_with fail
                              refine (HL2.out).mono ?_; rintro e w' ⟨rfl, rfl⟩
                              go_wp2_with fail
                              refine (HTK.out).mono ?_; rintro e w' ⟨rfl, rfl⟩
                              go_wp2_with fail
                              refine (HAK.out).mono ?_; rintro e w6 ⟨rfl, F6, hM6, hC6, hG6⟩
                              have HM7 := Lib.hid hM6
                              have HP7 : Hid (Pcs w6 (Mine F6 gj jb5) (some ⟨pb, po, none⟩) ps) := HP5.out.chg hC6 (fun k' hk' => .inl hk') (fun k' hk' => by
                                rcases hk' with hk' | hk'
                                · rcases hG6 k' hk' with h' | h'
                                  · exact .inl (.inl h')
                                  · exact .inr h'
                                · exact .inl (.inr hk'))
                              clear hM6 hC6 hG6 HAK HTK HL2
                              go_wp2
                              go_roundg (gk - 1)
                              case measure => omega
                              case rel => exact ⟨k + 1, q + 2, gn', gc', { c.took p.core with s := ackS c.s (tk : Int), n := q + 2 }, F6, jb5, G, by omega, by omega, by go_num, rfl, by go_num, ⟨by rw [HA.out.2.2, HE.out], rfl, by have := hH.out.q; omega, hg5.out⟩, HM7.out.setn _, HP7.out⟩
                    · have k1 : ¬ (k : Int) < (n9 : Int) := by omega
                      have k5 : decide (k < n9) = false := decide_eq_false hkn
                      have hcr : c = round gone c1 := by
                        rw [hH.out.eq]
                        exact hears_all (by rw [← hcore.out, List.length_map, ← hn9.out]; omega)
                      have HGn := Lib.hid (HGo.out.next (q' := q) (gn' := gn') (gone := gone) hbl.out.1 (by rw [← hcr]; exact hH.out.n) (by rw [← hcr]; exact hH.out.got))
                      rw [← hcr] at HGn hless
                      clear HP hcr
                      go_wp2
                      go_roundg (g1 - 1)
                      case measure => omega
                      case rel => exact ⟨q, t + 1, gn', gc', c, F, jb, G, by omega, rfl, rfl, by go_num, by have := hless.out; have := hph.out; rw [Hid]; omega, HGn.out, HM.out⟩
        · have HBr := Lib.hid HM1.out.below
          have b2 : ¬ (j : Int) < (n : Int) := by omega
          go_wp2
          go_ret
          exact ⟨rfl, HBr.out⟩
end Go.Proofs.Ytiljpbncfofnhaa.sendCo
