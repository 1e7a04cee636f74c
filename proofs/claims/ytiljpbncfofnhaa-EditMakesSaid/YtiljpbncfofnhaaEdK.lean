/- edit: the document's Apply: what one edit leaves, plainly; Puts. -/
import Derived.Test.YtiljpbncfofnhaaEdI
import Derived.Outline
import Derived.BigQuiet
import Derived.Deep.QuietTactic
import Derived.Deep.RegionWith
import Derived.Deep.RegionHeld3
import Derived.Deep.DrawnRows
import Derived.Deep.LoopGhost
import Derived.Deep.DeepCutAuto
import Derived.Laws.EntriesVeiled
namespace Go.Proofs.Ytiljpbncfofnhaa.EdF
open Go.RowKit Go.ChangeShapes Go.WideShapes Go.ChangeAt
set_option linter.unusedVariables false
set_option linter.unusedSimpArgs false
attribute [local go_sem ↓] Go.wp_at_zero Go.wp_at_succ
open MayA FragA FragB EdC EdB Tree

def nE (e : Ed) : Nat := if e.kind = 0 ∨ e.kind = 1 then e.n.toNat else if e.kind = 4 ∨ e.kind = 5 then 1 else 0
def chgF (e : Ed) (f : Fr) : Fr := if e.kind = 4 then geoF f e.f else if e.kind = 5 then txtF f e.f else f
/-- out, behind the first i of the fragments that an edit goes by -/
def outI (l : List Fr) (e : Ed) (k : Nat) (out : List Fr) (i : Nat) : List Fr := if e.kind = 1 then out else out ++ ((l.drop k).take i).map (chgF e)
theorem outI_zero (l : List Fr) (e : Ed) (k : Nat) (out : List Fr) : outI l e k out 0 = out := by unfold outI; split <;> simp
theorem outI_succ {l : List Fr} {e : Ed} {k i : Nat} {out : List Fr} {f : Fr} (hk : e.kind ≠ 1) (hf : l[k + i]? = some f) : outI l e k out (i + 1) = outI l e k out i ++ [chgF e f] := by
  unfold outI
  rw [if_neg hk, if_neg hk, List.take_add_one, List.getElem?_drop, hf]
  simp
theorem outI_skip {l : List Fr} {e : Ed} {k i : Nat} {out : List Fr} (hk : e.kind = 1) : outI l e k out i = out := by unfold outI; rw [if_pos hk]
theorem outI_none {l : List Fr} {e : Ed} {k : Nat} {out : List Fr} (hk : e.kind = 2 ∨ e.kind = 3) : outI l e k out (nE e) = out := by
  have : nE e = 0 := by unfold nE; rw [if_neg (by omega), if_neg (by omega)]
  rw [this, outI_zero]
theorem outI_len (l : List Fr) (e : Ed) (k : Nat) (out : List Fr) (i : Nat) : (outI l e k out i).length ≤ out.length + i := by
  unfold outI
  split
  · omega
  · rw [List.length_append, List.length_map, List.length_take]; omega
theorem nE_le {e : Ed} (hm : mayE e = true) : nE e ≤ 2048 := by
  unfold nE
  split
  · have := may_n hm ‹_›; omega
  · split <;> omega
theorem stepE_none {l : List Fr} {e : Ed} {k : Nat} {out : List Fr} (h5 : e.kind ≤ 5) (h0 : 0 ≤ e.kind) (hk : k ≤ l.length) (h : l.length < k + nE e) : stepE l e k out = none := by
  unfold nE at h
  unfold stepE
  by_cases k0 : e.kind = 0
  · rw [if_pos (.inl k0)] at h
    rw [if_pos k0, if_neg (by omega)]
  · by_cases k1 : e.kind = 1
    · rw [if_pos (.inr k1)] at h
      rw [if_neg k0, if_pos k1, if_neg (by omega)]
    · rw [if_neg (by omega)] at h
      by_cases k4 : e.kind = 4 ∨ e.kind = 5
      · rw [if_pos k4] at h
        have : l[k]? = none := List.getElem?_eq_none (by omega)
        rw [if_neg k0, if_neg k1, if_neg (by omega), if_neg (by omega), this]
      · rw [if_neg k4] at h; omega
theorem nE_of {e : Ed} : ((e.kind = 0 ∨ e.kind = 1) → nE e = e.n.toNat) ∧ ((e.kind = 4 ∨ e.kind = 5) → nE e = 1) := by
  unfold nE
  refine ⟨fun h => by rw [if_pos h], fun h => by rw [if_neg (by omega), if_pos h]⟩
theorem stepE_run {l : List Fr} {e : Ed} {k : Nat} {out : List Fr} (hk : e.kind = 0 ∨ e.kind = 1 ∨ e.kind = 4 ∨ e.kind = 5) (h : k + nE e ≤ l.length) : stepE l e k out = some (k + nE e, outI l e k out (nE e)) := by
  unfold stepE outI
  by_cases k0 : e.kind = 0
  · have hn := nE_of.1 (.inl k0)
    rw [hn] at h ⊢
    rw [if_pos k0, if_pos h, if_neg (by omega)]
    have hc : chgF e = id := by funext f; simp [chgF, k0]
    rw [hc, List.map_id]
  · by_cases k1 : e.kind = 1
    · have hn := nE_of.1 (.inr k1)
      rw [hn] at h ⊢
      rw [if_neg k0, if_pos k1, if_pos h, if_pos k1]
    · have k4 : e.kind = 4 ∨ e.kind = 5 := by omega
      have hn := nE_of.2 k4
      rw [hn] at h ⊢
      have hf : l[k]? = some l[k] := List.getElem?_eq_getElem (by omega)
      have ht : (l.drop k).take 1 = [l[k]] := by rw [List.drop_eq_getElem_cons (by omega)]; rfl
      rw [if_neg k0, if_neg k1, if_neg (by omega), if_neg (by omega), hf, if_neg k1, ht]
      simp only [List.map_cons, List.map_nil, chgF]
      by_cases k4' : e.kind = 4
      · simp [k4']
      · simp [k4', show e.kind = 5 by omega]
theorem stepE_ins {l : List Fr} {e : Ed} {k : Nat} {out : List Fr} (hk : e.kind = 2) : stepE l e k out = some (k, out ++ [e.f]) := by
  rw [stepE, if_neg (by omega), if_neg (by omega), if_pos hk]
theorem stepE_move {l : List Fr} {e : Ed} {k i : Nat} {f : Fr} {out : List Fr} (hk : e.kind = 3) (hi : findFrom e.node e.part l 0 = (i : Int)) (hf : l[i]? = some f) : stepE l e k out = some (k, out ++ [f]) := by
  rw [stepE, if_neg (by omega), if_neg (by omega), if_neg (by omega), if_pos hk, if_neg (by omega), hi]
  simp only [Int.toNat_natCast, hf]
theorem stepE_lost {l : List Fr} {e : Ed} {k : Nat} {out : List Fr} (hk : e.kind = 3) (hi : findFrom e.node e.part l 0 < 0) : stepE l e k out = none := by
  rw [stepE, if_neg (by omega), if_neg (by omega), if_neg (by omega), if_pos hk, if_pos hi]

/-- what the document's Apply holds: out, in memory of its own -/
structure RaI (w wr : World) (v : Value) (out : List Fr) : Prop where
  own : OwnA wr 67 8 Fr.cells v out
  vf : ∀ b, v.ownBlock = some b → w.heap.size ≤ b
  be : Below w.heap.size w wr
theorem RaI.ext {w wr w' : World} {v : Value} {out : List Fr} (h : RaI w wr v out) (hb : Below wr.heap.size wr w') : RaI w w' v out := ⟨h.own.ext hb, h.vf, h.be.trans (hb.mono h.be.size)⟩
theorem RaI.put {w wr w2 w3 : World} {v v' : Value} {out xs : List Fr} (h : RaI w wr v out) (hb : Below wr.heap.size wr w2) (hown : OwnA w3 67 8 Fr.cells v' (out ++ xs)) (hc : Chg (fun i => v.ownBlock = some i) w2 w3)
    (hat : v'.ownBlock = v.ownBlock ∨ v'.ownBlock = some w2.heap.size) : RaI w w3 v' (out ++ xs) := by
  have h2 := h.ext hb
  have hs := h2.be.size
  refine ⟨hown, fun b hb => ?_, h2.be.trans (hc.below hs fun i hi e => by have := h.vf i e; omega)⟩
  rcases hat with e | e
  · exact h.vf b (e ▸ hb)
  · rw [e] at hb; injection hb with hb; omega
theorem RaI.box {w wr w2 w3 : World} {v : Value} {out : List Fr} {b : Nat} {t : TypeId} {cs : Array Value} (h : RaI w wr v out) (hb : Below wr.heap.size wr w2) (hc : Chg (fun i => v.ownBlock = some i) w2 w3) (hk : Blk wr b t cs) (ht : 67 ≠ t) : Blk w3 b t cs :=
  (hk.ext hb).chg hc (fun e => (h.own.ext hb).apart (hk.ext hb) ht e)
set_option maxHeartbeats 2000000 in
theorem rputs_any (l : List Ed) (A : Option Addr) (cap : Nat) (w : World) (hl : EdSl w w.heap.size A l) (hm : l.length ≤ maxLen) :
    Calls Try.prog 49 #[.slice A l.length cap] w fun e w' => e = .returned (.int .i64 (putsE l : Int)) ∧ w = w' := by
  unfold maxLen at hm
  go_enter Try.func49, Try.ntmps49
  go_wp2
  go_loop [3, 4] (fun u v => ∃ j : Nat, j ≤ l.length ∧ u = .int .i64 (putsE (l.take j) : Int) ∧ v = .int .i64 j) (fun _ v => l.length - (intOf v).toNat)
  case atStart => exact ⟨0, by omega, rfl, rfl⟩
  case round =>
    obtain ⟨j, hj, rfl, rfl⟩ := hrel
    have hpl := putsE_le (l.take j)
    have htl : (l.take j).length ≤ j := List.length_take_le _ _
    by_cases hlt : j < l.length
    · obtain ⟨bb, off, rfl, hbb, c0, c1, c2, c3, c4, c5, c6, c7, c8, c9, c10, c11⟩ := EdSl.at_ hl (List.getElem?_eq_getElem hlt)
      have Hd : Hid (putsE (l.take (j + 1)) = putsE (l.take j) + if (l[j].kind == 2 || l[j].kind == 3) = true then 1 else 0) := by
        rw [Hid, List.take_add_one, List.getElem?_eq_getElem hlt, putsE, List.countP_append]
        simp [putsE, List.countP_cons]
      generalize l[j] = f at *
      generalize putsE (l.take j) = p at *
      have b1 : (0 : Int) ≤ (j : Int) := Int.natCast_nonneg _
      have b2 : (j : Int) < (l.length : Int) := by omega
      have hpm : p ≤ 9223372036854775806 := by omega
      clear hpl htl
      go_wp2
      all_goals (
        go_round
        case rel => exact ⟨j + 1, by omega, by rw [Hd.out]; simp_all; try go_num, by go_num⟩
        case measure => simp [intOf]; omega)
    · have e : Hid (l.take j = l) := List.take_of_length_le (by omega)
      rw [e.out]
      clear hpl htl
      go_wp2
      go_ret
      exact ⟨rfl, rfl⟩
end Go.Proofs.Ytiljpbncfofnhaa.EdF
