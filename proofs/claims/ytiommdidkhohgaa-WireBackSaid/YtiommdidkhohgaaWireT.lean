/- wire, plainly: what was put is taken as it was; what is taken of any bytes is put as those; torn forms. -/
import Derived.Test.YtiommdidkhohgaaPutF
namespace Go.Proofs.Ytiommdidkhohgaa.Wire
open Go.Proofs.Ytiommdidkhohgaa.Word
set_option linter.unusedVariables false
set_option linter.unusedSimpArgs false

theorem takeL_put : ∀ (l : List Nat) (r : List UInt8), (∀ x ∈ l, x < p64) → takeL l.length (rowW l ++ r) = some (l, (rowW l).length)
  | [], r, _ => rfl
  | x :: l, r, h => by
    have hx := h x (by simp)
    have e : rowW (x :: l) ++ r = putW x ++ (rowW l ++ r) := by simp [rowW]
    have e2 : rowW (x :: l) = putW x ++ rowW l := by simp [rowW]
    rw [List.length_cons, takeL, e, get_put hx]
    simp only
    rw [List.drop_left, takeL_put l r (fun y hy => h y (by simp [hy]))]
    simp [e2]
theorem takeK_put (k : Kd) (v : WV) (r : List UInt8) (hf : fitsK k v = true) (hw : v.Wf) (hl : longV v = false) : takeK k (putK k v ++ r) = some (v, (putK k v).length) := by
  obtain ⟨n, i, f, b, l⟩ := v
  simp only [longV, Bool.or_eq_false_iff, decide_eq_false_iff_not] at hl
  cases k with
  | nat =>
    simp only [fitsK, Bool.and_eq_true, beq_iff_eq, Bool.not_eq_true', List.isEmpty_iff] at hf
    obtain ⟨⟨⟨rfl, rfl⟩, rfl⟩, rfl⟩ := hf
    simp only [takeK, putK]
    rw [get_put hw.1]
    rfl
  | int =>
    simp only [fitsK, Bool.and_eq_true, beq_iff_eq, Bool.not_eq_true', List.isEmpty_iff] at hf
    obtain ⟨⟨⟨rfl, rfl⟩, rfl⟩, rfl⟩ := hf
    simp only [takeK, putK]
    rw [get_put (fold_lt hw.2.1 hw.2.2.1)]
    simp only [Option.map_some, unfold_fold]
    rfl
  | flag =>
    simp only [fitsK, Bool.and_eq_true, beq_iff_eq, Bool.not_eq_true', List.isEmpty_iff] at hf
    obtain ⟨⟨⟨rfl, rfl⟩, rfl⟩, rfl⟩ := hf
    cases f <;> rfl
  | bytes =>
    simp only [fitsK, Bool.and_eq_true, beq_iff_eq, Bool.not_eq_true', List.isEmpty_iff] at hf
    obtain ⟨⟨⟨rfl, rfl⟩, rfl⟩, rfl⟩ := hf
    have e : putK .bytes ⟨0, 0, false, b, []⟩ ++ r = putW b.length ++ (b ++ r) := by simp [putK]
    have e2 : putK .bytes ⟨0, 0, false, b, []⟩ = putW b.length ++ b := rfl
    rw [e, e2]
    unfold takeK
    simp only
    rw [get_put (by unfold p64; omega)]
    simp only
    rw [if_pos ⟨by omega, by simp⟩, List.drop_left, List.take_left]
    simp [wv0]
  | row =>
    simp only [fitsK, Bool.and_eq_true, beq_iff_eq, Bool.not_eq_true', List.isEmpty_iff] at hf
    obtain ⟨⟨⟨rfl, rfl⟩, rfl⟩, rfl⟩ := hf
    simp only [takeK, putK]
    rw [List.append_assoc, get_put (by unfold p64; omega)]
    simp only
    rw [if_pos (by omega), List.drop_left, takeL_put l r hw.2.2.2.1]
    simp [wv0]
theorem takeS_put : ∀ (ks : List Kd) (vs : List WV) (r : List UInt8), fitsS ks vs = true → (∀ v ∈ vs, v.Wf) → vs.any longV = false → takeS ks (putS ks vs ++ r) = some (vs, (putS ks vs).length)
  | [], [], r, _, _, _ => rfl
  | k :: ks, v :: vs, r, hf, hw, hl => by
    simp only [fitsS, Bool.and_eq_true] at hf
    simp only [List.any_cons, Bool.or_eq_false_iff] at hl
    rw [putS, List.append_assoc, takeS, takeK_put k v _ hf.1 (hw v (by simp)) hl.1]
    simp only
    rw [List.drop_left, takeS_put ks vs r hf.2 (fun x hx => hw x (by simp [hx])) hl.2]
    simp
  | [], v :: vs, r, h, _, _ => by cases h
  | k :: ks, [], r, h, _, _ => by cases h

theorem put_takeL : ∀ (m : Nat) (b : List UInt8) (ys : List Nat) (u : Nat), takeL m b = some (ys, u) → rowW ys = b.take u ∧ ys.length = m ∧ (∀ y ∈ ys, y < p64) ∧ u ≤ b.length
  | 0, b, ys, u, h => by
    simp only [takeL, Option.some.injEq, Prod.mk.injEq] at h
    obtain ⟨rfl, rfl⟩ := h
    exact ⟨rfl, rfl, by simp, by omega⟩
  | m + 1, b, ys, u, h => by
    unfold takeL at h
    cases hg : getW b with
    | none => rw [hg] at h; cases h
    | some x =>
      obtain ⟨x, k⟩ := x
      rw [hg] at h
      simp only at h
      cases hr : takeL m (b.drop k) with
      | none => rw [hr] at h; cases h
      | some y =>
        obtain ⟨zs, t⟩ := y
        rw [hr] at h
        simp only [Option.map_some, Option.some.injEq, Prod.mk.injEq] at h
        obtain ⟨rfl, rfl⟩ := h
        obtain ⟨h1, h2, h3, h4⟩ := put_takeL m _ _ _ hr
        have hs := get_some hg
        rw [List.length_drop] at h4
        refine ⟨?_, by simp [h2], ?_, by have := hs.2.2.2.1; omega⟩
        · have e : rowW (x :: zs) = putW x ++ rowW zs := by simp [rowW]
          rw [e, h1, ← hs.2.2.1, List.take_add]
        · intro y hy
          rcases List.mem_cons.1 hy with rfl | hy
          · exact hs.1
          · exact h3 y hy
theorem put_takeK {k : Kd} {b : List UInt8} {v : WV} {u : Nat} (h : takeK k b = some (v, u)) : putK k v = b.take u ∧ fitsK k v = true ∧ v.Wf ∧ longV v = false ∧ u ≤ b.length := by
  have hle := (takeK_le h).2
  cases k with
  | nat =>
    simp only [takeK] at h
    cases hg : getW b with
    | none => rw [hg] at h; cases h
    | some x =>
      obtain ⟨x, t⟩ := x
      rw [hg] at h
      simp only [Option.map_some, Option.some.injEq, Prod.mk.injEq] at h
      obtain ⟨rfl, rfl⟩ := h
      have hs := get_some hg
      exact ⟨hs.2.2.1.symm, rfl, ⟨hs.1, wv0_wf.2⟩, rfl, hle⟩
  | int =>
    simp only [takeK] at h
    cases hg : getW b with
    | none => rw [hg] at h; cases h
    | some x =>
      obtain ⟨x, t⟩ := x
      rw [hg] at h
      simp only [Option.map_some, Option.some.injEq, Prod.mk.injEq] at h
      obtain ⟨rfl, rfl⟩ := h
      have hs := get_some hg
      have hb := unfold_bd hs.1
      exact ⟨by simp only [putK, fold_unfold]; exact hs.2.2.1.symm, rfl, ⟨wv0_wf.1, hb.1, hb.2, wv0_wf.2.2.2⟩, rfl, hle⟩
  | flag =>
    cases b with
    | nil => cases h
    | cons d b =>
      simp only [takeK] at h
      split at h
      · simp only [Option.some.injEq, Prod.mk.injEq] at h
        obtain ⟨rfl, rfl⟩ := h
        rename_i hd
        refine ⟨?_, rfl, wv0_wf, rfl, hle⟩
        have h2 : d = 0 ∨ d = 1 := by
          rcases (show d.toNat = 0 ∨ d.toNat = 1 by omega) with h | h
          · left; exact UInt8.toNat_inj.1 h
          · right; exact UInt8.toNat_inj.1 h
        rcases h2 with rfl | rfl <;> rfl
      · cases h
  | bytes =>
    simp only [takeK] at h
    cases hg : getW b with
    | none => rw [hg] at h; cases h
    | some x =>
      obtain ⟨x, t⟩ := x
      rw [hg] at h
      simp only at h
      have hs := get_some hg
      split at h
      · rename_i hc
        simp only [Option.some.injEq, Prod.mk.injEq] at h
        obtain ⟨rfl, rfl⟩ := h
        have hlen : ((b.drop t).take x).length = x := by rw [List.length_take, List.length_drop]; omega
        refine ⟨?_, rfl, ⟨wv0_wf.1, wv0_wf.2.1, wv0_wf.2.2.1, wv0_wf.2.2.2.1, by simp only [hlen]; omega, wv0_wf.2.2.2.2.2⟩, ?_, hle⟩
        · simp only [putK, hlen]
          rw [← hs.2.2.1, List.take_add]
        · simp only [longV, hlen, Bool.or_eq_false_iff, decide_eq_false_iff_not]
          exact ⟨by omega, by simp [wv0]⟩
      · cases h
  | row =>
    simp only [takeK] at h
    cases hg : getW b with
    | none => rw [hg] at h; cases h
    | some x =>
      obtain ⟨x, t⟩ := x
      rw [hg] at h
      simp only at h
      have hs := get_some hg
      split at h
      · rename_i hc
        cases hr : takeL x (b.drop t) with
        | none => rw [hr] at h; cases h
        | some y =>
          obtain ⟨ys, q⟩ := y
          rw [hr] at h
          simp only [Option.map_some, Option.some.injEq, Prod.mk.injEq] at h
          obtain ⟨rfl, rfl⟩ := h
          obtain ⟨h1, h2, h3, h4⟩ := put_takeL x _ _ _ hr
          refine ⟨?_, rfl, ⟨wv0_wf.1, wv0_wf.2.1, wv0_wf.2.2.1, h3, wv0_wf.2.2.2.2.1, by simp only [h2]; omega⟩, ?_, hle⟩
          · simp only [putK, h2]
            rw [h1, ← hs.2.2.1, List.take_add]
          · simp only [longV, h2, Bool.or_eq_false_iff, decide_eq_false_iff_not]
            exact ⟨by simp [wv0], by omega⟩
      · cases h
theorem put_takeS : ∀ (ks : List Kd) (b : List UInt8) (vs : List WV) (u : Nat), takeS ks b = some (vs, u) → putS ks vs = b.take u ∧ fitsS ks vs = true ∧ (∀ v ∈ vs, v.Wf) ∧ vs.any longV = false ∧ u ≤ b.length
  | [], b, vs, u, h => by
    simp only [takeS, Option.some.injEq, Prod.mk.injEq] at h
    obtain ⟨rfl, rfl⟩ := h
    exact ⟨rfl, rfl, by simp, rfl, by omega⟩
  | k :: ks, b, vs, u, h => by
    unfold takeS at h
    cases hk : takeK k b with
    | none => rw [hk] at h; cases h
    | some x =>
      obtain ⟨v, t⟩ := x
      rw [hk] at h
      simp only at h
      cases hr : takeS ks (b.drop t) with
      | none => rw [hr] at h; cases h
      | some y =>
        obtain ⟨ws, q⟩ := y
        rw [hr] at h
        simp only [Option.map_some, Option.some.injEq, Prod.mk.injEq] at h
        obtain ⟨rfl, rfl⟩ := h
        obtain ⟨a1, a2, a3, a4, a5⟩ := put_takeK hk
        obtain ⟨b1, b2, b3, b4, b5⟩ := put_takeS ks _ _ _ hr
        rw [List.length_drop] at b5
        refine ⟨by rw [putS, a1, b1, List.take_add], by simp [fitsS, a2, b2], ?_, by simp [a4, b4], by omega⟩
        intro z hz
        rcases List.mem_cons.1 hz with rfl | hz
        · exact a3
        · exact b3 z hz
/-- a form without its last bytes is none -/
theorem take_torn (ks : List Kd) (vs : List WV) (m : Nat) (hf : fitsS ks vs = true) (hw : ∀ v ∈ vs, v.Wf) (hl : vs.any longV = false) (hm : m < (putS ks vs).length) : takeS ks ((putS ks vs).take m) = none := by
  cases ht : takeS ks ((putS ks vs).take m) with
  | none => rfl
  | some y =>
    exfalso
    obtain ⟨ws, u⟩ := y
    obtain ⟨h1, h2, h3, h4, h5⟩ := put_takeS ks _ _ _ ht
    rw [List.length_take] at h5
    have hum : u ≤ m := by omega
    have e : putS ks ws = (putS ks vs).take u := by rw [h1, List.take_take, Nat.min_eq_left hum]
    have a := takeS_put ks ws ((putS ks vs).drop u) h2 h3 h4
    rw [e, List.take_append_drop] at a
    have b := takeS_put ks vs [] hf hw hl
    rw [List.append_nil, a] at b
    simp only [Option.some.injEq, Prod.mk.injEq] at b
    have hlen := b.2
    rw [List.length_take] at hlen
    omega
end Go.Proofs.Ytiommdidkhohgaa.Wire
