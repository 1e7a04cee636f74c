/- the document's Get (windowpaneref02), whole; the program's at any place. -/
import Derived.Test.YtiommdidkhohgaaWordK
import Derived.Test.YtiommdidkhohgaaWordL
import Derived.Test.YtiommdidkhohgaaWordD
import Derived.Test.YtiommdidkhohgaaBytes
import Derived.Outline
import Derived.BigQuiet
import Derived.Deep.QuietTactic
import Derived.Deep.RegionWith
import Derived.Deep.RegionHeld3
import Derived.Deep.DrawnRows
import Derived.Deep.LoopGhost
import Derived.Deep.DeepCutAuto
import Derived.Laws.EntriesVeiled
namespace Go.Proofs.Ytiommdidkhohgaa.Word
open Go.RowKit Go.ChangeShapes Go.WideShapes Go.ChangeAt
set_option linter.unusedVariables false
set_option linter.unusedSimpArgs false
attribute [local go_sem ↓] Go.wp_at_zero Go.wp_at_succ
open Go.Shelf

theorem get_any (l : List UInt8) (A : Option Addr) (n cap : Nat) (at' : Int) (w : World) (hl : BySl w w.heap.size A l) (hn : Hid (n = l.length)) (hc : n ≤ cap) (hm : n ≤ 1000000000000) :
    Calls Try.prog 82 #[.slice A n cap, .int .i64 at'] w fun e w' => e = .returned (getV (getAt l at')) ∧ Below w.heap.size w w' := by
  by_cases h : at' < 0 ∨ (n : Int) ≤ at'
  · exact get_out l A n cap at' w hn h
  · obtain ⟨k, rfl⟩ : ∃ k : Nat, at' = (k : Int) := ⟨at'.toNat, by omega⟩
    have e : getAt l (k : Int) = getW (l.drop k) := by unfold getAt; rw [if_neg (by rw [← hn.out]; exact h)]; simp
    rw [e]
    exact get_in l A n cap k w hl hn hc hm (by omega)

theorem same_at (l m : List UInt8) (A B : Option Addr) (nl nm ca cb : Nat) (w : World) (hl : BySl w w.heap.size A l) (hm : BySl w w.heap.size B m) (hnl : Hid (nl = l.length)) (hnm : Hid (nm = m.length)) (h63 : nl ≤ maxLen) (h63' : nm ≤ maxLen) :
    Calls Try.prog 21 #[.slice A nl ca, .slice B nm cb] w fun e w' => e = .returned (.bool (Bytes.eqB l m)) ∧ ∃ n, w' = w.drewN n := by
  obtain rfl := hnl.out
  obtain rfl := hnm.out
  exact Bytes.same_any l m A B ca cb w hl hm h63 h63'

theorem rget_out (l : List UInt8) (A : Option Addr) (n cap : Nat) (at' : Int) (w : World) (hn : Hid (n = l.length)) (hm : n ≤ 1000000000000) (h : at' < 0 ∨ (n : Int) ≤ at') :
    Calls Try.prog 61 #[.slice A n cap, .int .i64 at'] w fun e w' => e = .returned (getV (getAt l at')) ∧ Below w.heap.size w w' := by
  have hg : Hid (getAt l at' = none) := by unfold Hid getAt; rw [if_pos (by rw [← hn.out]; exact h)]
  have e2 : IntKind.i64.wrap ((n : Int) - 1) = (n : Int) - 1 := IntWalk.i64_in _ (by omega)
  have e3 : IntKind.i64.wrap ((n : Int) - 1 - (0 : Int)) = (n : Int) - 1 - 0 := IntWalk.i64_in _ (by omega)
  have hz : ¬ (at' ≤ (n : Int) - 1 - 0) ∨ ¬ (0 ≤ at') := by omega
  go_enter Try.func61, Try.ntmps61
  go_wp2
  go_loopg [7, 8, 9] 0 (fun g vn vu vi wr => vi = .int .i64 0 ∧ wr = w)
  case atStart => exact ⟨rfl, rfl⟩
  case round =>
    obtain ⟨rfl, rfl⟩ := hrel
    by_cases h0 : 0 ≤ at'
    · have h1 : ¬ (at' ≤ (n : Int) - 1 - 0) := by omega
      go_wp2
      refine bodyPost_ret (v := getV none) ?_ rfl ⟨by rw [hg.out], (by repeat (first | exact Below.refl _ _ | assumption | refine Below.drew ?_ | refine bdrewN ?_ _ | refine Below.alloc ?_ (by simp; try omega) _ | refine Below.setCell ?_ (by simp; try omega) _))⟩
      simp [results, Try.results61, go_sem, getV]
    · go_wp2
      refine bodyPost_ret (v := getV none) ?_ rfl ⟨by rw [hg.out], (by repeat (first | exact Below.refl _ _ | assumption | refine Below.drew ?_ | refine bdrewN ?_ _ | refine Below.alloc ?_ (by simp; try omega) _ | refine Below.setCell ?_ (by simp; try omega) _))⟩
      simp [results, Try.results61, go_sem, getV]

theorem wrapN64 (n : Nat) {z : Int} (hz : z = (n : Int)) : IntKind.u64.wrap z = ((n % p64 : Nat) : Int) := by
  subst hz
  have h : IntKind.u64.wrap (n : Int) = (n : Int) % 18446744073709551616 := by simp [IntKind.wrap, IntKind.bits, IntKind.signed]
  rw [h]
  unfold p64
  omega
/-- how far Get has come -/
structure RG (l : List UInt8) (k i nv uv : Nat) : Prop where
  low : lowIdx (l.drop k) = (lowIdx ((l.drop k).drop i)).map (· + i)
  n : nv = valL ((l.drop k).take i) % p64
  u : uv = 128 ^ i % p64

theorem rget_in (l : List UInt8) (A : Option Addr) (n cap k : Nat) (w : World) (hl : BySl w w.heap.size A l) (hn : Hid (n = l.length)) (hc : n ≤ cap) (hm : n ≤ 1000000000000) (hk : k < n) :
    Calls Try.prog 61 #[.slice A n cap, .int .i64 (k : Int)] w fun e w' => e = .returned (getV (getW (l.drop k))) ∧ Below w.heap.size w w' := by
  have e2 : IntKind.i64.wrap ((n : Int) - 1) = (n : Int) - 1 := IntWalk.i64_in _ (by omega)
  have k0 : (0 : Int) ≤ (k : Int) := Int.natCast_nonneg _
  have HL := Lib.hid hl
  have HW := Lib.hid (Below.refl w.heap.size w)
  have hlen : Hid (n - k = (l.drop k).length) := by unfold Hid; rw [List.length_drop, ← hn.out]
  clear hl
  go_enter Try.func61, Try.ntmps61
  go_wp2
  go_loopg [7, 8, 9] 10 (fun g vn vu vi wr => ∃ i nv uv : Nat, vi = .int .i64 (i : Int) ∧ vn = .int .u64 (nv : Int) ∧ vu = .int .u64 (uv : Int) ∧ 10 ≤ i + g ∧ i ≤ 10 ∧ Hid (RG l k i nv uv) ∧ wr = w)
  case atStart =>
    refine ⟨0, 0, 1, rfl, rfl, rfl, by omega, by omega, ⟨?_, rfl, rfl⟩, rfl⟩
    rw [List.drop_zero]
    cases hh : lowIdx (l.drop k) <;> rfl
  case round =>
    obtain ⟨i, nv, uv, rfl, rfl, rfl, hg, hi, hR, rfl⟩ := hrel
    have e3 : IntKind.i64.wrap ((n : Int) - 1 - (i : Int)) = (n : Int) - 1 - (i : Int) := IntWalk.i64_in _ (by omega)
    by_cases hi10 : i < 10
    · by_cases hin : k + i < n
      · have c1 : decide ((i : Int) < 10) = true := decide_eq_true (by omega)
        have c2 : decide ((k : Int) ≤ (n : Int) - 1 - (i : Int)) = true := decide_eq_true (by omega)
        have hx : l[k + i]? = some l[k + i] := List.getElem?_eq_getElem (by rw [← hn.out]; exact hin)
        obtain ⟨bb, off, rfl, hbb, c0⟩ := BySl.at_ HL.out hx
        have Hx : Hid ((l.drop k)[i]? = some l[k + i]) := by rw [Hid, List.getElem?_drop]; exact hx
        generalize l[k + i] = d at *
        have hnv : nv < p64 := by rw [hR.out.n]; exact Nat.mod_lt _ (by decide)
        have huv : uv < p64 := by rw [hR.out.u]; exact Nat.mod_lt _ (by decide)
        have i0 : IntKind.i64.wrap ((k : Int) + (i : Int)) = ((k + i : Nat) : Int) := by rw [IntWalk.i64_in _ (by omega)]; omega
        obtain ⟨m, hmm⟩ : ∃ m, m = k + i := ⟨_, rfl⟩
        rw [← hmm] at i0 c0
        have m0 : (0 : Int) ≤ (m : Int) := Int.natCast_nonneg _
        have m1 : (m : Int) < (n : Int) := by omega
        have HM := Lib.hid hmm
        clear hmm
        obtain ⟨dm, hdm⟩ : ∃ dm, dm = d.toNat % 128 := ⟨_, rfl⟩
        have e4 : Int.tmod (d.toNat : Int) 128 = (dm : Int) := by rw [hdm]; exact (Int.ofNat_tmod _ _).symm
        have e5 : IntKind.u64.wrap (dm : Int) = (dm : Int) := IntWalk.u64_in _ (by omega)
        obtain ⟨pm, hpm⟩ : ∃ pm, pm = dm * uv % p64 := ⟨_, rfl⟩
        obtain ⟨sm, hsm⟩ : ∃ sm, sm = (nv + pm) % p64 := ⟨_, rfl⟩
        obtain ⟨um, hum⟩ : ∃ um, um = uv * 128 % p64 := ⟨_, rfl⟩
        have e6 : IntKind.u64.wrap ((dm : Int) * (uv : Int)) = (pm : Int) := by rw [hpm]; exact wrapN64 (dm * uv) (by simp)
        have e7 : IntKind.u64.wrap ((nv : Int) + (pm : Int)) = (sm : Int) := by rw [hsm]; exact wrapN64 (nv + pm) (by simp)
        have e8 : IntKind.u64.wrap ((uv : Int) * 128) = (um : Int) := by rw [hum]; exact wrapN64 (uv * 128) (by simp)
        have HS := Lib.hid (show sm = valL ((l.drop k).take (i + 1)) % p64 from by
          rw [hsm, hpm, hdm, Nat.add_mod, Nat.mod_mod, ← Nat.add_mod, hR.out.n, hR.out.u]
          exact rget_sum Hx.out)
        have HU := Lib.hid (show um = 128 ^ (i + 1) % p64 from by rw [hum, hR.out.u]; exact rget_unit i)
        clear hdm hpm hsm hum
        by_cases hd : d.toNat < 128
        · have c3 : decide ((128 : Int) ≤ (d.toNat : Int)) = false := decide_eq_false (by omega)
          have hsv : sm < p64 := by rw [HS.out]; exact Nat.mod_lt _ (by decide)
          have i4 : IntKind.i64.wrap ((m : Int) + 1) = (m : Int) + 1 := IntWalk.i64_in _ (by omega)
          have i5 : IntKind.i64.wrap ((i : Int) + 1) = (i : Int) + 1 := IntWalk.i64_in _ (by omega)
          have hlh : ∀ W, (Instr.slice 22 (.slice (some ⟨bb, off, none⟩) n cap) (some (.int .i64 (k : Int))) (some (.int .i64 ((m : Int) + 1))) none).run Try.prog W = .ok (.slice (cutA (some ⟨bb, off, none⟩) cap k 1) (i + 1) (cap - k)) W := fun W => by
            have := run_slice_lohi (c := 1) Try.underlying22 (Option.isSome_iff_exists.1 (by kernel_rfl)) (by kernel_rfl) (some ⟨bb, off, none⟩) n cap (k : Int) ((m : Int) + 1) (by omega) (by have := HM.out; omega) (by omega) W
            have h5 : ((m : Int) + 1).toNat - (k : Int).toNat = i + 1 := by have := HM.out; omega
            rw [h5, Int.toNat_natCast] at this
            exact this
          have HT : Hid (BySl wr wr.heap.size (cutA (some ⟨bb, off, none⟩) cap k 1) ((l.drop k).take (i + 1)) ∧ i + 1 = ((l.drop k).take (i + 1)).length) := by
            refine ⟨(Sl.cut HL.out cap k (by rw [← hn.out]; exact hc)).take (i + 1), ?_⟩
            rw [List.length_take, ← hlen.out]
            omega
          have hfin := Lib.hid (rget_low hR.out.low Hx.out hd (by omega) HS.out)
          have HMX : Hid (i + 1 ≤ maxLen) := by unfold Hid maxLen; omega
          generalize cutA (some ⟨bb, off, none⟩) cap k 1 = Ac at *
          have hsame : ∀ (w1 : World) (A1 : Option Addr) (n1 cap1 : Nat), Hid (Own w1 wr.heap.size 5 1 encB (.slice A1 n1 cap1) (putW sm) ∧ Below wr.heap.size wr w1 ∧ n1 ≤ maxLen) → Hid (n1 = (putW sm).length) →
              Calls Try.prog 21 #[.slice A1 n1 cap1, .slice Ac (i + 1) (cap - k)] w1 fun e w' => e = .returned (.bool (Bytes.eqB (putW sm) ((l.drop k).take (i + 1)))) ∧ ∃ n, w' = w1.drewN n := fun w1 A1 n1 cap1 HO hn1 =>
            same_at (putW sm) ((l.drop k).take (i + 1)) A1 Ac n1 (i + 1) cap1 (cap - k) w1 (HO.out.1.sls encB_len) (HT.out.1.ext HO.out.2.1) hn1 HT.out.2 HO.out.2.2 HMX.out
          clear hR
          go_wp2
          go_region_with (first | (go_at_call 28; refine (rput sm hsv _).mono ?_; rintro e w1 ⟨V, rfl, hown, hb⟩; obtain ⟨A1, n1, cap1, rfl, hn1, hle1, hmx1⟩ := hown.form; have HO : Hid (Own w1 wr.heap.size 5 1 encB (.slice A1 n1 cap1) (putW sm) ∧ Below wr.heap.size wr w1 ∧ n1 ≤ maxLen) := Lib.hid (And.intro hown (And.intro ⟨hb.os, hb.tape, hb.output, hb.size, hb.block⟩ (Nat.le_trans hle1 hmx1))); clear hown hb) | (go_at_call 21; refine (hsame _ _ _ _ HO hn1).mono ?_; rintro e w' ⟨rfl, nq, rfl⟩))
          all_goals (
            have hB1 : Below wr.heap.size wr (w1.drewN nq) := bdrewN HO.out.2.1 nq
            have hcase : Hid (Bytes.eqB (putW sm) ((l.drop k).take (i + 1)) = decide (putW sm = (l.drop k).take (i + 1))) := by
              rw [Hid, Bool.eq_iff_iff, Bytes.eqB_iff, decide_eq_true_iff]
            generalize Bytes.eqB (putW sm) ((l.drop k).take (i + 1)) = q at *
            cases q with
            | true =>
              have h8 := Lib.hid (hfin.out.trans (if_pos (of_decide_eq_true hcase.out.symm)))
              go_wp2
              refine bodyPost_ret (v := getV (some (sm, i + 1))) ?_ rfl ⟨by rw [h8.out], hB1⟩
              simp [results, Try.results61, go_sem, getV]
            | false =>
              have h8 := Lib.hid (hfin.out.trans (if_neg (of_decide_eq_false hcase.out.symm)))
              go_wp2
              refine bodyPost_ret (v := getV none) ?_ rfl ⟨by rw [h8.out], hB1⟩
              simp [results, Try.results61, go_sem, getV])
        · have c3 : decide ((128 : Int) ≤ (d.toNat : Int)) = true := decide_eq_true (by omega)
          go_wp2
          go_roundg (gk - 1)
          case measure => omega
          case rel => exact ⟨i + 1, sm, um, by go_num, rfl, rfl, by omega, by omega, ⟨rget_next hR.out.low Hx.out hd, HS.out, HU.out⟩, rfl⟩
      · have c1 : decide ((i : Int) < 10) = true := decide_eq_true (by omega)
        have c2 : decide ((k : Int) ≤ (n : Int) - 1 - (i : Int)) = false := decide_eq_false (by omega)
        have hz := Lib.hid (rget_end hR.out.low (.inr (by rw [← hlen.out]; omega)))
        go_wp2
        refine bodyPost_ret (v := getV none) ?_ rfl ⟨by rw [hz.out], (by repeat (first | exact Below.refl _ _ | assumption | refine Below.drew ?_ | refine bdrewN ?_ _ | refine Below.alloc ?_ (by simp; try omega) _ | refine Below.setCell ?_ (by simp; try omega) _))⟩
        simp [results, Try.results61, go_sem, getV]
    · have c1 : decide ((i : Int) < 10) = false := decide_eq_false (by omega)
      have hz := Lib.hid (rget_end hR.out.low (.inl (by omega)))
      go_wp2
      refine bodyPost_ret (v := getV none) ?_ rfl ⟨by rw [hz.out], (by repeat (first | exact Below.refl _ _ | assumption | refine Below.drew ?_ | refine bdrewN ?_ _ | refine Below.alloc ?_ (by simp; try omega) _ | refine Below.setCell ?_ (by simp; try omega) _))⟩
      simp [results, Try.results61, go_sem, getV]

theorem rget_any (l : List UInt8) (A : Option Addr) (n cap : Nat) (at' : Int) (w : World) (hl : BySl w w.heap.size A l) (hn : Hid (n = l.length)) (hc : n ≤ cap) (hm : n ≤ 1000000000000) :
    Calls Try.prog 61 #[.slice A n cap, .int .i64 at'] w fun e w' => e = .returned (getV (getAt l at')) ∧ Below w.heap.size w w' := by
  by_cases h : at' < 0 ∨ (n : Int) ≤ at'
  · exact rget_out l A n cap at' w hn (by omega) h
  · obtain ⟨k, rfl⟩ : ∃ k : Nat, at' = (k : Int) := ⟨at'.toNat, by omega⟩
    have e : getAt l (k : Int) = getW (l.drop k) := by unfold getAt; rw [if_neg (by rw [← hn.out]; exact h)]; simp
    rw [e]
    exact rget_in l A n cap k w hl hn hc hm (by omega)
end Go.Proofs.Ytiommdidkhohgaa.Word
