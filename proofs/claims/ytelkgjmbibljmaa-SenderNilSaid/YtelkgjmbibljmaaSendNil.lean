/- SenderNil: a sender that nobody made sends nothing: whatever the input, the law returns true and leaves its arguments as they were. -/
import Derived.Test.YtelkgjmbibljmaaLift
import Derived.Test.YtelkgjmbibljmaaSendA
import Derived.Outline
import Derived.BigQuiet
import Derived.Deep.QuietTactic
import Derived.Deep.RegionWith
import Derived.Deep.RegionHeld3
import Derived.Deep.DrawnRows
import Derived.Deep.LoopGhost
import Derived.Deep.DeepCutAuto
import Derived.Laws.EntriesVeiled
namespace Go.Proofs.Ytelkgjmbibljmaa.sendNil
open Go.RowKit Go.ChangeShapes Go.WideShapes Go.ChangeAt
set_option linter.unusedVariables false
set_option linter.unusedSimpArgs false
attribute [local go_sem ↓] Go.wp_at_zero Go.wp_at_succ
open SendA

theorem opens_u8 {H : Type} {ench : TypeId × Value → H} {w : World} {base : Nat} {held : Bool} : OpensAs ench Try.prog w base held 5 encB (fun _ => True) := by
  intro fuel cs x h hw
  obtain ⟨n, rfl, k⟩ := opens_int Try.underlying5 _ _ _ h hw
  have hb : 0 ≤ n ∧ n ≤ 255 := by simpa [Lit.wf, IntKind.min, IntKind.max, IntKind.signed, IntKind.bits] using k
  refine ⟨UInt8.ofNat n.toNat, ?_, trivial⟩
  simp only [encB]
  congr 2
  rw [UInt8.toNat_ofNat']
  omega

theorem opens_ch {H : Type} {ench : TypeId × Value → H} {w : World} {base : Nat} {held : Bool} : OpensAs ench Try.prog w base held 50 Ch.cells (Ch.Ok w) := by
  intro fuel cs x h hw
  obtain ⟨A, l, cap, r2, hsl, _, hle, hmx, _, _⟩ := open_sl_cells (c := 1) Try.underlying50 (by kernel_rfl) (by decide) opens_u8 h hw
  exact ⟨⟨A, l.length, cap, l⟩, r2, ⟨hsl, rfl, Nat.le_trans hle hmx⟩⟩

theorem opens_act {H : Type} {ench : TypeId × Value → H} {w : World} {base : Nat} {held : Bool} : OpensAs ench Try.prog w base held 37 Act.cells (Act.Ok w) := by
  intro fuel cs x h hw
  obtain ⟨hl, n, hf⟩ := struct_cells Try.underlying37 (by kernel_rfl) (by kernel_rfl) h hw
  obtain ⟨v0, y0, e0, t0, w0⟩ := hf 0 _ rfl
  obtain ⟨v1, y1, e1, t1, w1⟩ := hf 1 _ rfl
  obtain ⟨v2, y2, e2, t2, w2⟩ := hf 2 _ rfl
  obtain ⟨n0, r0, k0⟩ := opens_int Try.underlying5 _ _ _ t0 w0
  obtain ⟨n1, r1, k1⟩ := opens_int Try.underlying3 _ _ _ t1 w1
  obtain ⟨A, l, cap, r2, hsl, hok, hle, hmx, hrc, _⟩ := open_sl_cells (c := 1) Try.underlying28 (by kernel_rfl) (by decide) opens_ch t2 w2
  simp only [List.cons.injEq, and_true] at r0 r1 r2
  have hby : Try.prog.bytesOf 50 = 24 := by kernel_rfl
  refine ⟨⟨n0, n1, A, l.length, cap, l⟩, ?_, ⟨by simpa [Lit.wf, IntKind.min, IntKind.max, IntKind.signed, IntKind.bits] using k0, k1, hsl, rfl, by have := reachBytes_lt; rw [hby] at hrc; simp only; omega, hok⟩⟩
  have hl' : cs.length = 3 := hl
  match cs, hl' with
  | [c0, c1, c2], _ => simp_all [Act.cells]


set_option maxHeartbeats 1000000 in
theorem walk (cs : List Ch) (A : Option Addr) (n cap : Nat) (seq : Int) (w : World) (hl : ChSl w w.heap.size A cs) (hok : ∀ c ∈ cs, Ch.Ok w c) (hn : Hid (n = cs.length)) (h63 : n ≤ 140737488355328) :
    Calls Try.prog 4 #[.slice A n cap, .int .i64 seq] w fun e w' => e = .returned (.bool true) ∧ Below w.heap.size w w' := by
  have hb1 : Below w.heap.size w (w.alloc (.cells #[.int .u8 0, .int .i64 0, .slice A n cap] 37)) := (Below.refl _ _).alloc (Nat.le_refl _) _
  have hg := great_any [⟨0, 0, A, n, cap, cs⟩] (some ⟨w.heap.size, 0, none⟩) 1 1 (w.alloc (.cells #[.int .u8 0, .int .i64 0, .slice A n cap] 37))
    (fun _ => ⟨w.heap.size, 0, rfl, by simp, fun k x hx j v hv => by
      rcases k with _ | k
      · simp at hx; subst hx
        rw [show (⟨w.heap.size, 0 + 0 * 3 + j, none⟩ : Addr) = ⟨w.heap.size, j, none⟩ from by simp, (Blk.new w _ _).cell j]
        simpa [Act.cells] using hv
      · simp at hx⟩)
    (fun a ha => by simp at ha; subst ha; exact ⟨by simp, (by change (Lit.int IntKind.i64 0).wf = true; decide), (show ChSl _ _ A cs from Sl.ext hl hb1), hn, h63, fun c hc => (hok c hc).ext hb1⟩) rfl (by unfold maxLen; omega)
  have hG := Lib.hid hg
  clear hg
  generalize great [⟨0, 0, A, n, cap, cs⟩] = gb at *
  cases gb with
  | true =>
    go_enter Try.func4, Try.ntmps4
    go_wp2_with (go_at_call 23; refine (hG.out).mono ?_; rintro e w' ⟨rfl, rfl⟩)
    go_ret
    exact ⟨rfl, hb1⟩
  | false =>
    go_enter Try.func4, Try.ntmps4
    go_wp2_with (go_at_call 23; refine (hG.out).mono ?_; rintro e w' ⟨rfl, rfl⟩)
    generalize hW : ((w.alloc (Obj.cells #[Value.int IntKind.u8 0, Value.int IntKind.i64 0, Value.slice A n cap] 37)).alloc (Obj.cells #[Value.bool false, Value.slice none 0 0, Value.slice none 0 0, Value.int IntKind.i64 0, Value.int IntKind.i64 0, Value.int IntKind.i64 0, Value.int IntKind.i64 0] 42)).alloc (Obj.cells #[Value.pointer none, Value.pointer (some { block := w.heap.size + 1, off := 0 })] 24) = W
    have c0 : W.cell? ⟨w.heap.size + 1, 0, none⟩ = some (.bool false) := by subst hW; go_simp
    have c1 : W.cell? ⟨w.heap.size + 1 + 1, 0, none⟩ = some (.pointer none) := by subst hW; go_simp
    have c2 : W.cell? ⟨w.heap.size + 1 + 1, 1, none⟩ = some (.pointer (some ⟨w.heap.size + 1, 0, none⟩)) := by subst hW; go_simp
    have hB : Below w.heap.size w W := by subst hW; exact (((Below.refl _ _).alloc (Nat.le_refl _) _).alloc (by simp) _).alloc (by simp; omega) _
    clear hW
    go_loopw [7] (fun i wr => ∃ k m : Nat, k ≤ 2 ∧ i = .int .i64 k ∧ wr = W.drewN m) (fun i _ => 2 - (intOf i).toNat)
    case atStart => exact ⟨0, 0, by omega, rfl, rfl⟩
    case round =>
      obtain ⟨k, m, hk, rfl, rfl⟩ := hrel
      by_cases h2 : k = 2
      · subst h2
        go_wp2
        go_ret
        exact ⟨rfl, bdrewN hB _⟩
      · obtain ⟨p, hp, hn⟩ : ∃ p, W.cell? ⟨w.heap.size + 1 + 1, k, none⟩ = some (.pointer p) ∧ Nobody W p := by
          rcases (by omega : k = 0 ∨ k = 1) with rfl | rfl
          · exact ⟨_, c1, .inl rfl⟩
          · exact ⟨_, c2, .inr ⟨_, _, rfl, c0⟩⟩
        have hk2 : k < 2 := by omega
        have hN : ∀ m, Nobody (W.drewN m) p := fun _ => hn
        clear h2 hk c1 c2 c0 hn
        go_wp2_with (first | (go_at_call 17; refine (load_nobody _ _ _ (hN _)).mono ?_; rintro e w' ⟨rfl, rfl⟩) | (go_at_call 20; refine (ack_nobody _ _ _ (hN _)).mono ?_; rintro e w' ⟨rfl, rfl⟩) | (go_at_call 19; refine (send_nobody _ _ (hN _)).mono ?_; rintro e w' ⟨rfl, rfl⟩) | (go_at_call 21; refine (tick_nobody _ _ (hN _)).mono ?_; rintro e w' ⟨rfl, rfl⟩) | (go_at_call 24; refine (idle_nobody _ _ (hN _)).mono ?_; rintro e w' ⟨rfl, mm, rfl⟩) | (go_at_call 22; refine (flying_nobody _ _ (hN _)).mono ?_; rintro e w' ⟨rfl, rfl⟩) | (go_at_call 25; refine (acked_nobody _ _ (hN _)).mono ?_; rintro e w' ⟨rfl, rfl⟩))
        go_roundw
        case rel => exact ⟨k + 1, m + mm, by omega, by go_num, rfl⟩
        case measure => simp [intOf]; omega

theorem le24 {n cap : Nat} (h : cap * Try.prog.bytesOf 50 ≤ reachBytes) (hn : n ≤ cap) : n ≤ 140737488355328 := by
  have hby : Try.prog.bytesOf 50 = 24 := by kernel_rfl
  have := reachBytes_lt
  rw [hby] at h
  omega

set_option maxRecDepth 100000 in
theorem lifted (os : Os) (started : os.Started) (H : Type) (enc : TypeId × Value → H) :
    ReturnsInHanded {} Try.checked os 4 .any (Rows.senderNilSpec.pre6 enc Try.prog Try.f4 Rows.senderNilRow.domain false) (Rows.senderNilSpec.post enc Try.prog Try.f4 false true false false) := by
  refine returnsInHanded_of_change_sized (C := Try.checked) own started (by kernel_rfl) Try.func4
    (ChangeSpec.witness6 (enc := enc) (C := Try.checked) false ⟨#[], #[.slice none 0 0, .int .i64 0], []⟩ 8 (by kernel_rfl) (by kernel_rfl) (by kernel_rfl) (by kernel_rfl)) ?_
  intro W base args ds gs before hval0 hW hcnd hsz0 _
  have hval : ∀ (j : Nat) t v, Try.f4.params[j]? = some t → args[j]? = some v → Value.okWide Try.prog W .any base t v := hval0
  have hW' := hW
  obtain ⟨p, q, hA0, hV, rfl, hfz, hnd⟩ := hW
  have hA : DataW.TrodAll enc Try.prog W 0 (fun _ => true) true Try.f4.params.toList args.toList ds p := hA0
  have hsz : (DataW.weightsEach Try.prog (Try.f4.params.toList ++ []) (ds ++ gs)).all (· ≤ reachBytes) = true := hsz0
  rw [Try.params4] at hA hval hsz
  have hAll := hA
  obtain ⟨v0, vs0, d0, ds0, p0, q0, hargs, rfl, rfl, h0, r0⟩ := trodAll_cons hA
  obtain ⟨v1, vs1, d1, ds1, p1, q1, rfl, rfl, rfl, h1, r1⟩ := trodAll_cons r0
  obtain ⟨rfl, rfl, rfl⟩ := trodAll_nil r1
  obtain rfl : args = #[v0, v1] := by cases args; simp_all
  obtain ⟨rfl, rfl⟩ := trodVars_none hV
  obtain ⟨c_A, c, c_cap, rfl, c_sl, c_ok, c_le, c_max, c_reach, c_nil⟩ := open_sl Try.underlying28 (c := 1) (by kernel_rfl) (by decide) opens_ch (hval 0 28 v0 rfl rfl) h0 (light_of hsz (j := 0) rfl rfl)
  obtain ⟨s, rfl, _, _, s_wf⟩ := open_int Try.underlying3 (hval 1 3 v1 rfl rfl) h1
  refine (walk c c_A c.length c_cap s W c_sl c_ok rfl (le24 c_reach c_le)).mono fun e W' ⟨he, bel⟩ => ?_
  subst he
  exact ⟨_, rfl, _, _, _, [], _, [], hW', trodAll_mk1 (shut_bool Try.underlying4 _), keep_args laidOut bel (by kernel_rfl) hAll, rfl, bel.frame _, fun h => by cases h⟩

theorem over : Rows.senderNilRow.holds Try.pinned (OpenSpec.ofChange Rows.senderNilSpec) :=
  OpenClaim.holds_of_wide 4 Try.f4 rfl rfl rfl rfl rfl rfl rfl ⟨rfl, rfl, rfl, rfl, rfl⟩ rfl rfl rfl rfl rfl (by kernel_rfl) Try.func4 (by kernel_rfl)
    (of_decide_eq_true (by kernel_rfl)) (by unfold Func.isWrapper; first | (rw [if_pos (by decide +kernel)]; kernel_rfl) | (rw [if_neg (by decide +kernel)]; exact ⟨rfl, rfl⟩))
    (fun os started H enc _ => lifted os started H enc)

theorem proved : Rows.SenderNilSaid := over
#print axioms proved
end Go.Proofs.Ytelkgjmbibljmaa.sendNil
