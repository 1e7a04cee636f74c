/- words.Get of the program, whole. -/
import Derived.Test.YtiommdidkhohgaaWordJ
import Derived.Outline
import Derived.BigQuiet
import Derived.Deep.QuietTactic
import Derived.Deep.RegionWith
import Derived.Deep.RegionHeld3
import Derived.Deep.DrawnRows
import Derived.Deep.LoopGhost
import Derived.Deep.DeepCutAuto
import Derived.Laws.EntriesVeiled
namespace Go.Proofs.Ytiommdidkhohgaa.Word
open Go.RowKit Go.ChangeShapes Go.WideShapes Go.ChangeAt
set_option linter.unusedVariables false
set_option linter.unusedSimpArgs false
attribute [local go_sem ↓] Go.wp_at_zero Go.wp_at_succ
attribute [local go_sem] Oper.semAt_some
open Go.Shelf

theorem get_in (l : List UInt8) (A : Option Addr) (n cap k : Nat) (w : World) (hl : BySl w w.heap.size A l) (hn : Hid (n = l.length)) (hc : n ≤ cap) (hm : n ≤ 1000000000000) (hk : k < n) :
    Calls Try.prog 82 #[.slice A n cap, .int .i64 (k : Int)] w fun e w' => e = .returned (getV (getW (l.drop k))) ∧ Below w.heap.size w w' := by
  have hlo : ∀ W, (Instr.slice 22 (.slice A n cap) (some (.int .i64 (k : Int))) none none).run Try.prog W = .ok (.slice (cutA A cap k 1) (n - k) (cap - k)) W := fun W => by
    have := run_slice_lo (c := 1) Try.underlying22 (Option.isSome_iff_exists.1 (by kernel_rfl)) (by kernel_rfl) A n cap (k : Int) (by omega) (by omega) W
    simpa using this
  have k0 : ¬ (k : Int) < 0 := by omega
  have k1 : ¬ (n : Int) ≤ (k : Int) := by omega
  have HL := Lib.hid (Sl.cut hl cap k (by rw [← hn.out]; exact hc))
  have hnk : Hid (n - k = (l.drop k).length) := by unfold Hid; rw [List.length_drop, ← hn.out]
  refine (callsIn_wide (n := 3)).1 ?_
  refine callsIn_of_wp_marks Try.func82 rfl trivial ?_ rfl
  simp only [Try.ntmps82, List.size_toArray, List.length_cons, List.length_nil, Nat.reduceAdd, Nat.reduceSub, Array.replicate_succ, Array.replicate_zero, List.push_toArray, List.append_toArray, List.nil_append, List.cons_append]
  gi_wp2_with fail
  refine ⟨trivial, ?_⟩
  have hb3 : Below w.heap.size w (((w.alloc (.cells #[.int .u64 0] 31)).alloc (.cells #[.int .i64 0] 3)).alloc (.cells #[.bool false] 4)) := (by repeat (first | exact Below.refl _ _ | assumption | refine Below.drew ?_ | refine bdrewN ?_ _ | refine Below.alloc ?_ (by simp; try omega) _ | refine Below.setCell ?_ (by simp; try omega) _))
  refine (callsIn_wide.2 (indexLow_any (l.drop k) (cutA A cap k 1) (n - k) (cap - k) _ (Sl.ext HL.out hb3) hnk (by omega))).mono ?_; rintro e w1 ⟨rfl, rfl⟩
  cases hi : lowIdx (l.drop k) with
  | none =>
    have e1 : lowI (l.drop k) = -1 := by unfold lowI; rw [hi]
    have e2 : Hid (getW (l.drop k) = none) := get_none hi
    rw [e1]
    clear hi e1
    gi_wp2
    refine ⟨getV none, by simp [results, Try.results82, go_sem, getV], by rw [e2.out], (by repeat (first | exact Below.refl _ _ | assumption | refine Below.drew ?_ | refine bdrewN ?_ _ | refine Below.alloc ?_ (by simp; try omega) _ | refine Below.setCell ?_ (by simp; try omega) _))⟩
  | some i =>
    have e1 : lowI (l.drop k) = (i : Int) := by unfold lowI; rw [hi]
    rw [e1]
    by_cases hf : 9 < i
    · have e2 : Hid (getW (l.drop k) = none) := get_far hi hf
      have h9 : (9 : Int) < (i : Int) := by omega
      have h0 : ¬ (i : Int) < 0 := by omega
      clear hi e1
      gi_wp2
      refine ⟨getV none, by simp [results, Try.results82, go_sem, getV], by rw [e2.out], (by repeat (first | exact Below.refl _ _ | assumption | refine Below.drew ?_ | refine bdrewN ?_ _ | refine Below.alloc ?_ (by simp; try omega) _ | refine Below.setCell ?_ (by simp; try omega) _))⟩
    · have h9 : decide ((9 : Int) < (i : Int)) = false := decide_eq_false (by omega)
      have h0 : decide ((i : Int) < 0) = false := decide_eq_false (by omega)
      have hlt := lowIdx_lt _ _ hi
      have hin : k + (i + 1) ≤ n := by rw [List.length_drop] at hlt; rw [hn.out] at *; omega
      have HI := Lib.hid hi
      have e3 : IntKind.i64.wrap ((k : Int) + (i : Int)) = (k : Int) + (i : Int) := IntWalk.i64_in _ (by omega)
      have e4 : IntKind.i64.wrap ((k : Int) + (i : Int) + 1) = (k : Int) + (i : Int) + 1 := IntWalk.i64_in _ (by omega)
      have hlh : ∀ W, (Instr.slice 22 (.slice A n cap) (some (.int .i64 (k : Int))) (some (.int .i64 ((k : Int) + (i : Int) + 1))) none).run Try.prog W = .ok (.slice (cutA A cap k 1) (i + 1) (cap - k)) W := fun W => by
        have := run_slice_lohi (c := 1) Try.underlying22 (Option.isSome_iff_exists.1 (by kernel_rfl)) (by kernel_rfl) A n cap (k : Int) ((k : Int) + (i : Int) + 1) (by omega) (by omega) (by omega) W
        have e5 : ((k : Int) + (i : Int) + 1).toNat - (k : Int).toNat = i + 1 := by omega
        rw [e5, Int.toNat_natCast] at this
        exact this
      clear hi e1 hlt
      gi_wp2_with fail
      refine ⟨trivial, ?_⟩
      refine (callsIn_wide.2 (backward_any _ _ _ _)).mono ?_; rintro e w' ⟨rfl, rfl⟩
      gi_wp2_with fail
      have hB0 : Below w.heap.size w (((((w.alloc (.cells #[.int .u64 0] 31)).alloc (.cells #[.int .i64 0] 3)).alloc (.cells #[.bool false] 4)).alloc (.cells #[.int .u64 0] 31)).alloc (.cells #[.slice (cutA A cap k 1) (i + 1) (cap - k)] 22)) := (by repeat (first | exact Below.refl _ _ | assumption | refine Below.drew ?_ | refine bdrewN ?_ _ | refine Below.alloc ?_ (by simp; try omega) _ | refine Below.setCell ?_ (by simp; try omega) _))
      have hsz : (((((w.alloc (.cells #[.int .u64 0] 31)).alloc (.cells #[.int .i64 0] 3)).alloc (.cells #[.bool false] 4)).alloc (.cells #[.int .u64 0] 31)).alloc (.cells #[.slice (cutA A cap k 1) (i + 1) (cap - k)] 22)).heap.size = w.heap.size + 5 := by simp
      have z0 : Blk (((((w.alloc (.cells #[.int .u64 0] 31)).alloc (.cells #[.int .i64 0] 3)).alloc (.cells #[.bool false] 4)).alloc (.cells #[.int .u64 0] 31)).alloc (.cells #[.slice (cutA A cap k 1) (i + 1) (cap - k)] 22)) w.heap.size 31 #[.int .u64 0] := ((((Blk.new _ _ _).alloc _).alloc _).alloc _).alloc _
      have z1 : Blk (((((w.alloc (.cells #[.int .u64 0] 31)).alloc (.cells #[.int .i64 0] 3)).alloc (.cells #[.bool false] 4)).alloc (.cells #[.int .u64 0] 31)).alloc (.cells #[.slice (cutA A cap k 1) (i + 1) (cap - k)] 22)) (w.heap.size + 1) 3 #[.int .i64 0] := by
        have := Blk.new (w.alloc (.cells #[.int .u64 0] 31)) 3 #[.int .i64 0]
        rw [World.size_alloc] at this
        exact ((this.alloc _).alloc _).alloc _
      have z2 : Blk (((((w.alloc (.cells #[.int .u64 0] 31)).alloc (.cells #[.int .i64 0] 3)).alloc (.cells #[.bool false] 4)).alloc (.cells #[.int .u64 0] 31)).alloc (.cells #[.slice (cutA A cap k 1) (i + 1) (cap - k)] 22)) (w.heap.size + 2) 4 #[.bool false] := by
        have := Blk.new ((w.alloc (.cells #[.int .u64 0] 31)).alloc (.cells #[.int .i64 0] 3)) 4 #[.bool false]
        rw [World.size_alloc, World.size_alloc] at this
        exact (this.alloc _).alloc _
      have z3 : Blk (((((w.alloc (.cells #[.int .u64 0] 31)).alloc (.cells #[.int .i64 0] 3)).alloc (.cells #[.bool false] 4)).alloc (.cells #[.int .u64 0] 31)).alloc (.cells #[.slice (cutA A cap k 1) (i + 1) (cap - k)] 22)) (w.heap.size + 3) 31 #[.int .u64 0] := by
        have := Blk.new (((w.alloc (.cells #[.int .u64 0] 31)).alloc (.cells #[.int .i64 0] 3)).alloc (.cells #[.bool false] 4)) 31 #[.int .u64 0]
        rw [World.size_alloc, World.size_alloc, World.size_alloc] at this
        exact this.alloc _
      have z4 : Blk (((((w.alloc (.cells #[.int .u64 0] 31)).alloc (.cells #[.int .i64 0] 3)).alloc (.cells #[.bool false] 4)).alloc (.cells #[.int .u64 0] 31)).alloc (.cells #[.slice (cutA A cap k 1) (i + 1) (cap - k)] 22)) (w.heap.size + 4) 22 #[.slice (cutA A cap k 1) (i + 1) (cap - k)] := by
        have := Blk.new ((((w.alloc (.cells #[.int .u64 0] 31)).alloc (.cells #[.int .i64 0] 3)).alloc (.cells #[.bool false] 4)).alloc (.cells #[.int .u64 0] 31)) 22 #[.slice (cutA A cap k 1) (i + 1) (cap - k)]
        rw [World.size_alloc, World.size_alloc, World.size_alloc, World.size_alloc] at this
        exact this
      generalize (((((w.alloc (.cells #[.int .u64 0] 31)).alloc (.cells #[.int .i64 0] 3)).alloc (.cells #[.bool false] 4)).alloc (.cells #[.int .u64 0] 31)).alloc (.cells #[.slice (cutA A cap k 1) (i + 1) (cap - k)] 22)) = w0 at *
      have htd : Hid ((l.drop k).take (i + 1) ≠ [] ∧ ((l.drop k).take (i + 1)).length = i + 1) := by
        have h1 : ((l.drop k).take (i + 1)).length = i + 1 := by rw [List.length_take, List.length_drop, ← hn.out]; omega
        exact ⟨fun h => by rw [h] at h1; simp at h1, h1⟩
      have hG : Hid (∀ v : Nat, v = valL ((l.drop k).take (i + 1)) → (p64 ≤ v → getW (l.drop k) = none) ∧ (v < p64 → getW (l.drop k) = if (putW v).length = i + 1 then some (v, i + 1) else none)) := by
        rintro v rfl
        exact ⟨fun h => get_over HI.out h, fun h => get_length HI.out (by omega) h⟩
      have HS : Hid (BySl w0 w0.heap.size (cutA A cap k 1) ((l.drop k).take (i + 1))) := (Sl.ext HL.out hB0).take (i + 1)
      obtain ⟨t, ht⟩ : ∃ t, (l.drop k).take (i + 1) = t := ⟨_, rfl⟩
      rw [ht] at htd hG HS
      have hAb : Hid (∀ g, blockOf (cutA A cap k 1) = some g → g < w.heap.size) := (HL.out.take (i + 1)).blk_lt (by rw [ht]; exact htd.out.1)
      generalize hgA : cutA A cap k 1 = Ac at *
      have hit := backward_iter (3 - 1) t Ac (i + 1) (cap - k) (w.heap.size + 1 + 1 + 1 + 1) w0 HS.out htd.out.2.symm (by omega) (z4.cell 0)
      clear HI HL hlh hlo ht hk hin k0 k1 hl
      apply wpIn_rangeT (n := 3) (gf := 92) (lb := #[.pointer (some ⟨w.heap.size + 1 + 1 + 1 + 1, 0, none⟩)]) rfl (enters_of Try.func92 (by kernel_rfl) rfl) (encs := encK) (fun _ => rfl) (bk t) (fun _ => False) (fun k => k = w.heap.size + 1 + 1 + 1 + 1 ∨ blockOf Ac = some k) (fun _ h => h.elim)
        (by rintro k (rfl | h); (· omega); exact HS.out.blk_lt htd.out.1 _ h) hit
        (GetI w) (fun c pre W => c = .ret ∧ GetX w W ∧ p64 ≤ valL t) (fun s X Y h hc => h.chg hc (fun q hk => by rcases hk with hk | hk | hk; (· exact hk.elim); (· omega); omega)) (fun c s X Y h hc => ⟨h.1, h.2.1.chg hc (fun q hk => by rcases hk with hk | hk | hk; (· exact hk.elim); (· omega); omega), h.2.2⟩) ⟨z0, z1, z2, z3, by decide, hB0⟩
      case hassign =>
        intro l x W K hK
        have e : ∀ (T : Array Value), ((#[37, 38] : Array Tmp).zip (encK x)).foldl (fun t (y : Tmp × Value) => t.setIfInBounds y.1 y.2) T = (T.setIfInBounds 37 (.int .i64 x.1)).setIfInBounds 38 (.int .u8 (x.2.toNat : Int)) := fun T => by simp [encK]
        rw [e]
        gi_wp2
        exact hK
      case hbody =>
        rintro l' pre ⟨j, d⟩ W hI hpre hsz'
        have hfit : Hid (∃ p, t = p ++ d :: (pre.map Prod.snd).reverse) := by
          obtain ⟨s, hs⟩ := hpre
          have h1 := congrArg (List.map Prod.snd) hs
          rw [bk_snd] at h1
          have h2 := congrArg List.reverse h1
          rw [List.reverse_reverse] at h2
          exact ⟨(s.map Prod.snd).reverse, by rw [← h2]; simp⟩
        obtain ⟨v, hv⟩ : ∃ v, v = valL (pre.map Prod.snd).reverse := ⟨_, rfl⟩
        have c0 : W.cell? ⟨w.heap.size, 0, none⟩ = some (.int .u64 0) := hI.r0.cell 0
        have c1 : W.cell? ⟨w.heap.size + 1, 0, none⟩ = some (.int .i64 0) := hI.r1.cell 0
        have c2 : W.cell? ⟨w.heap.size + 1 + 1, 0, none⟩ = some (.bool false) := hI.r2.cell 0
        have c3 : W.cell? ⟨w.heap.size + 1 + 1 + 1, 0, none⟩ = some (.int .u64 (v : Int)) := by rw [hv]; exact hI.nb.cell 0
        have f0 := hI.r0.free 0
        have f1 := hI.r1.free 0
        have f2 : W.frozen? ⟨w.heap.size + 1 + 1, 0, none⟩ = false := hI.r2.free 0
        have f3 : W.frozen? ⟨w.heap.size + 1 + 1 + 1, 0, none⟩ = false := hI.nb.free 0
        have HI := Lib.hid hI
        have HV : Hid (v = valL (pre.map Prod.snd).reverse ∧ v < p64) := ⟨hv, by rw [hv]; exact hI.lt⟩
        have hD : w.heap.size + 5 ≤ w0.heap.size := by omega
        clear hI hpre hv
        obtain ⟨q, hq⟩ : ∃ q, q = v / 2 ^ 57 := ⟨_, rfl⟩
        have hsh : Op.shift .shr .u64 (v : Int) .u64 57 = pure (.int .u64 (q : Int)) := (shift_shr .u64 .u64 _ _ (by decide) (by decide)).trans (by rw [hq]; rfl)
        by_cases hov : v < 144115188075855872
        · have hq0 : q = 0 := by rw [hq]; exact Nat.div_eq_of_lt (by omega)
          subst hq0
          have hsl : Op.shift .shl .u64 (v : Int) .u64 7 = pure (.int .u64 ((v * 128 : Nat) : Int)) := (shift_shl .u64 .u64 _ _ (by decide) (by decide)).trans (by
            have e : IntKind.u64.wrap ((v : Int) * 2 ^ (7 : Int).toNat) = ((v * 128 : Nat) : Int) := by
              rw [show ((v : Int) * 2 ^ (7 : Int).toNat) = ((v * 128 : Nat) : Int) from by simp]
              exact IntWalk.u64_in _ (by omega)
            rw [e])
          have ha := and127 d
          obtain ⟨r, hr⟩ : ∃ r, r = d.toNat % 128 + 128 * v := ⟨_, rfl⟩
          have hj : bits .or .u64 ((v : Int) * 128) ((d.toNat : Int) % 128) = (r : Int) := by
            have := join7 v d hov
            rw [← hr] at this
            rw [← this]
            simp
          have HR := Lib.hid hr
          clear hr
          have hw : IntKind.u64.wrap ((d.toNat % 128 : Nat) : Int) = ((d.toNat % 128 : Nat) : Int) := IntWalk.u64_in _ (by omega)
          clear hq
          gi_wp2
          exact HI.out.next (R0 := fun q => q = w.heap.size + 1 + 1 + 1 + 1 ∨ blockOf Ac = some q) hD (by rintro g (rfl | hg); (· omega); have := hAb.out g hg; omega) HV.out.1 hov HR.out
        · have hq0 : ((q : Int) == 0) = false := by
            have : 1 ≤ q := by rw [hq]; omega
            simp; omega
          clear hq
          gi_wp2
          exact HI.out.back (R0 := fun q => q = w.heap.size + 1 + 1 + 1 + 1 ∨ blockOf Ac = some q) hD (by rintro g (rfl | hg); (· exact .inr rfl); exact .inl (hAb.out g hg)) (by rintro g (rfl | hg); (· omega); have := hAb.out g hg; omega) (by obtain ⟨p, hp⟩ := hfit.out; rw [hp]; exact val_over p d _ (by rw [← HV.out.1]; omega))
      case hdone =>
        rintro W hI hK
        have e1 : ((bk t).map Prod.snd).reverse = t := by rw [bk_snd, List.reverse_reverse]
        obtain ⟨v, hv⟩ : ∃ v, v = valL t := ⟨_, rfl⟩
        have c0 : W.cell? ⟨w.heap.size, 0, none⟩ = some (.int .u64 0) := hI.r0.cell 0
        have c1 : W.cell? ⟨w.heap.size + 1, 0, none⟩ = some (.int .i64 0) := hI.r1.cell 0
        have c2 : W.cell? ⟨w.heap.size + 1 + 1, 0, none⟩ = some (.bool false) := hI.r2.cell 0
        have c3 : W.cell? ⟨w.heap.size + 1 + 1 + 1, 0, none⟩ = some (.int .u64 (v : Int)) := by rw [hv, ← e1]; exact hI.nb.cell 0
        have f0 := hI.r0.free 0
        have f1 := hI.r1.free 0
        have f2 : W.frozen? ⟨w.heap.size + 1 + 1, 0, none⟩ = false := hI.r2.free 0
        have hlt : v < p64 := by rw [hv, ← e1]; exact hI.lt
        have hg := (hG.out v hv).2 hlt
        have HI := Lib.hid (And.intro hI hg)
        clear hI hg e1 hv
        have e5 : IntKind.i64.wrap ((i : Int) + 1) = (i : Int) + 1 := IntWalk.i64_in _ (by omega)
        gi_wp2_with fail
        refine ⟨trivial, ?_⟩
        refine (callsIn_wide.2 (size_any v hlt _)).mono ?_; rintro e w' ⟨rfl, rfl⟩
        rw [hsz] at hK
        have fin : ∀ (a b : Int) (c : Bool), Hid (GetR w a b c ((((W.setCell ⟨w.heap.size, 0, none⟩ (.int .u64 a)).setCell ⟨w.heap.size + 1, 0, none⟩ (.int .i64 b)).setCell ⟨w.heap.size + 1 + 1, 0, none⟩ (.bool c)).putObj (w.heap.size + 5) (.deferred none))) := fun a b c =>
          (HI.out.1.stored a b c).chg ((Chg.refl (fun q => q = w.heap.size + 5) _).putObj (r := w.heap.size + 5) (fun _ => rfl) _) (fun q hq => by omega)
        have hKs := fun a b c => Lib.hid (GetI.stored_heap (w := w) a b c hK (by omega))
        clear hK
        by_cases hsz2 : (putW v).length = i + 1
        · have h5 : (((putW v).length : Int) == (i : Int) + 1) = true := by rw [hsz2]; simp
          have hR := Lib.hid ((HI.out.2).trans (if_pos hsz2))
          clear hsz2
          generalize (putW v).length = pl at *
          gi_wp2
          refine ⟨by simp, .inl ⟨_, _, rfl, run_takeDeferred (hKs _ _ _).out, ?_⟩⟩
          have HF := (fin (v : Int) ((i : Int) + 1) true).out
          have q0 := HF.r0.cell 0
          have q1 := HF.r1.cell 0
          have q2 := HF.r2.cell 0
          refine ⟨getV (some (v, i + 1)), ?_, by rw [hR.out], HF.be⟩
          trace_state
          simp [results, Try.results82, go_sem, getV, q0, q1, q2]
        · have h5 : (((putW v).length : Int) == (i : Int) + 1) = false := by simp; omega
          have hR := Lib.hid ((HI.out.2).trans (if_neg hsz2))
          clear hsz2
          generalize (putW v).length = pl at *
          gi_wp2
          refine ⟨by simp, .inl ⟨_, _, rfl, run_takeDeferred (hKs _ _ _).out, ?_⟩⟩
          have HF := (fin 0 0 false).out
          have q0 := HF.r0.cell 0
          have q1 := HF.r1.cell 0
          have q2 := HF.r2.cell 0
          refine ⟨getV none, ?_, by rw [hR.out], HF.be⟩
          simp [results, Try.results82, go_sem, getV, q0, q1, q2]
      case hstop =>
        rintro c pre W ⟨rfl, hX, hv⟩ hK
        have e2 : Hid (getW (l.drop k) = none) := (hG.out _ rfl).1 hv
        have HF := hX.stored.chg ((Chg.refl (fun q => q = w0.heap.size) W).putObj (r := w0.heap.size) (fun _ => rfl) (.deferred none)) (fun q hq => by omega)
        clear hX hv
        gi_wp2
        refine ⟨by simp, .inl ⟨_, _, rfl, run_takeDeferred hK, ?_⟩⟩
        have q0 := HF.r0.cell 0
        have q1 := HF.r1.cell 0
        have q2 := HF.r2.cell 0
        refine ⟨getV none, ?_, by rw [e2.out], HF.be⟩
        simp [results, Try.results82, go_sem, getV, q0, q1, q2]
end Go.Proofs.Ytiommdidkhohgaa.Word
