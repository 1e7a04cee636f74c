/- SenderComes: the step from the walk to the statement: whatever the input, the law returns true and leaves its arguments as they were. -/
import Derived.Test.YtiljpbncfofnhaaSendCo
namespace Go.Proofs.Ytiljpbncfofnhaa.lawCo
open Go.RowKit Go.ChangeShapes Go.WideShapes Go.ChangeAt
set_option linter.unusedVariables false
set_option linter.unusedSimpArgs false
open Send Go.Proofs.Ytiljpbncfofnhaa.Comes sendCo
set_option maxRecDepth 100000 in
theorem lifted (os : Os) (started : os.Started) (H : Type) (enc : TypeId × Value → H) :
    ReturnsInHanded {} Try.checked os 4 .any (Rows.senderComesSpec.pre6 enc Try.prog Try.f4 Rows.senderComesRow.domain false) (Rows.senderComesSpec.post enc Try.prog Try.f4 false true false false) := by
  refine returnsInHanded_of_change_sized (C := Try.checked) own started (by kernel_rfl) Try.func4
    (ChangeSpec.witness6 (enc := enc) (C := Try.checked) false ⟨#[], #[.slice none 0 0, .slice none 0 0], []⟩ 8 (by kernel_rfl) (by kernel_rfl) (by kernel_rfl) (by kernel_rfl)) ?_
  intro W base args ds gs before hval0 hW hcnd hsz0 _
  have hval : ∀ (j : Nat) t v, Try.f4.params[j]? = some t → args[j]? = some v → Value.okWide Try.prog W .any base t v := hval0
  have hW' := hW
  obtain ⟨p, q, hA0, hV, rfl, hfz, hnd⟩ := hW
  have hA : DataW.TrodAll enc Try.prog W 0 (fun _ => true) true Try.f4.params.toList args.toList ds p := hA0
  have hsz : (DataW.weightsEach Try.prog (Try.f4.params.toList ++ []) (ds ++ gs)).all (· ≤ reachBytes) = true := hsz0
  rw [Try.params4] at hA hval hsz
  have hAll := hA
  obtain ⟨v0, vs0, d0, ds0, p0, q0, hargs, rfl, rfl, h0, r0⟩ := trodAll_cons hA
  obtain ⟨v1, vs1, d1, ds1, p1, q1, rfl, rfl, rfl, h1, r1⟩ := trodAll_cons r0
  obtain ⟨rfl, rfl, rfl⟩ := trodAll_nil r1
  obtain rfl : args = #[v0, v1] := by cases args; simp_all
  obtain ⟨rfl, rfl⟩ := trodVars_none hV
  obtain ⟨c_A, c, c_cap, rfl, c_sl, c_ok, c_le, c_max, c_reach, c_nil⟩ := open_sl Try.underlying28 (c := 1) (by kernel_rfl) (by decide) opens_ch (hval 0 28 v0 rfl rfl) h0 (light_of hsz (j := 0) rfl rfl)
  obtain ⟨g_A, g, g_cap, rfl, g_sl, g_ok, g_le, g_max, g_reach, g_nil⟩ := open_sl Try.underlying49 (c := 1) (by kernel_rfl) (by decide) (opens_bool Try.underlying4) (hval 1 49 v1 rfl rfl) h1 (light_of hsz (j := 1) rfl rfl)
  refine (walk c c_A c.length c_cap g g_A g.length g_cap W c_sl c_ok rfl (Nat.le_trans c_le c_max) g_sl rfl (Nat.le_trans g_le g_max)).mono fun e W' ⟨he, bel⟩ => ?_
  subst he
  exact ⟨_, rfl, _, _, _, [], _, [], hW', trodAll_mk1 (shut_bool Try.underlying4 _), keep_args laidOut bel (by kernel_rfl) hAll, rfl, bel.frame _, fun h => by cases h⟩

theorem over : Rows.senderComesRow.holds Try.pinned (OpenSpec.ofChange Rows.senderComesSpec) :=
  OpenClaim.holds_of_wide 4 Try.f4 rfl rfl rfl rfl rfl rfl rfl ⟨rfl, rfl, rfl, rfl, rfl⟩ rfl rfl rfl rfl rfl (by kernel_rfl) Try.func4 (by kernel_rfl)
    (of_decide_eq_true (by kernel_rfl)) (by unfold Func.isWrapper; first | (rw [if_pos (by decide +kernel)]; kernel_rfl) | (rw [if_neg (by decide +kernel)]; exact ⟨rfl, rfl⟩))
    (fun os started H enc _ => lifted os started H enc)

theorem proved : Rows.SenderComesSaid := over
#print axioms proved
end Go.Proofs.Ytiljpbncfofnhaa.lawCo
