/- sender: the law's copied: chunks in memory of their own. -/
import Derived.Test.YtiljpbncfofnhaaRSendE
import Derived.Outline
import Derived.BigQuiet
import Derived.Deep.QuietTactic
import Derived.Deep.RegionWith
import Derived.Deep.RegionHeld3
import Derived.Deep.DrawnRows
import Derived.Deep.LoopGhost
import Derived.Deep.DeepCutAuto
import Derived.Laws.EntriesVeiled
namespace Go.Proofs.Ytiljpbncfofnhaa.Send
open Go.RowKit Go.ChangeShapes Go.WideShapes Go.ChangeAt
set_option linter.unusedVariables false
set_option linter.unusedSimpArgs false
attribute [local go_sem ↓] Go.wp_at_zero Go.wp_at_succ

/-- chunks of the call's own, made behind w, each in a block of its own -/
structure OwnCh (w w' : World) (v : Value) (src : List (List UInt8)) (cs : List Ch) : Prop where
  own : OwnA w' 36 1 Ch.cells v cs
  fresh : ∀ k, v.ownBlock = some k → w.heap.size ≤ k
  ok : ∀ c ∈ cs, OwnA w' 5 1 encB (.slice c.A c.n c.cap) c.bs
  each : ∀ c ∈ cs, ∀ k, blockOf c.A = some k → w.heap.size ≤ k
  bs : cs.map Ch.bs = src
  below : Below w.heap.size w w'
  apart : ∀ (i j : Nat) (ci cj : Ch), i < j → cs[i]? = some ci → cs[j]? = some cj → ∀ k, blockOf ci.A = some k → blockOf cj.A ≠ some k
theorem OwnCh.step {w wr w1 w3 : World} {v v' : Value} {src : List (List UInt8)} {b : List UInt8} {cs : List Ch} {A2 : Option Addr} {n2 c2 : Nat} {o : Obj} (h : OwnCh w wr v src cs) (h1 : Below wr.heap.size wr w1) (ho : OwnA w1 5 1 encB (.slice A2 n2 c2) b) (hf : ∀ k, (Value.slice A2 n2 c2).ownBlock = some k → wr.heap.size ≤ k)
    (hown : OwnA w3 36 1 Ch.cells v' (cs ++ [⟨A2, n2, c2, b⟩])) (hc : Chg (fun k => v.ownBlock = some k) (w1.alloc o) w3) (hat : v'.ownBlock = v.ownBlock ∨ v'.ownBlock = some (w1.alloc o).heap.size) :
    OwnCh w w3 v' (src ++ [b]) (cs ++ [⟨A2, n2, c2, b⟩]) := by
  have h2 := below_s w1 o
  have e0 := h.below.size
  have e1 := h1.size
  have e2 := h2.size
  have hv2 : OwnA (w1.alloc o) 36 1 Ch.cells v cs := (h.own.ext h1).ext h2
  refine ⟨hown, fun k hk => ?_, fun c hc' => ?_, fun c hc' k hk => ?_, ?_, ?_, fun i j ci cj hij hi hj k hk hk2 => ?_⟩
  · rcases hat with hat | hat
    · exact h.fresh k (hat ▸ hk)
    · rw [hat] at hk; injection hk with hk; omega
  · rcases List.mem_append.1 hc' with hm | hm
    · have o := ((h.ok c hm).ext h1).ext h2
      exact o.chg hc (fun k hk => o.apartA hv2 (by decide) hk)
    · simp only [List.mem_singleton] at hm
      subst hm
      exact (ho.ext h2).chg hc (fun k hk => (ho.ext h2).apartA hv2 (by decide) hk)
  · rcases List.mem_append.1 hc' with hm | hm
    · exact h.each c hm k hk
    · simp only [List.mem_singleton] at hm
      subst hm
      have := hf k (blk_own hk)
      omega
  · rw [List.map_append, h.bs]; rfl
  · exact ((h.below.trans (h1.mono e0)).trans (h2.mono (by omega))).trans (hc.below (by omega) (fun i hi hs => by have := h.fresh i hs; omega))
  · have hjl := (List.getElem?_eq_some_iff.1 hj).1
    rw [List.length_append, List.length_singleton] at hjl
    rw [List.getElem?_append_left (by omega)] at hi
    by_cases hje : j < cs.length
    · rw [List.getElem?_append_left hje] at hj
      exact h.apart i j ci cj hij hi hj k hk hk2
    · rw [List.getElem?_append_right (by omega), show j - cs.length = 0 from by omega] at hj
      simp at hj
      subst hj
      have h3 := hf k (blk_own hk2)
      have h4 := (h.ok ci (List.mem_of_getElem? hi)).lt (blk_own hk)
      omega
set_option maxHeartbeats 2000000 in
theorem copied_any (cs : List Ch) (A : Option Addr) (n cap : Nat) (w : World) (hl : ChSl w w.heap.size A cs) (hok : ∀ c ∈ cs, Ch.Ok w c) (hn : Hid (n = cs.length)) (hm : n ≤ 1000) (hle : ∀ c ∈ cs, c.n ≤ 1000) :
    Calls Try.prog 16 #[.slice A n cap] w fun e w' => ∃ A2 n2 c2, e = .returned (.slice A2 n2 c2) ∧ ∃ qs, OwnCh w w' (.slice A2 n2 c2) (cs.map Ch.bs) qs := by
  obtain ⟨i0, hi0, hz, hz1, hz2⟩ := info_parts chInfo
  have HL := Lib.hid (And.intro hl (And.intro hok hle))
  clear hl hok hle
  go_enter Try.func16, Try.ntmps16
  go_wp2
  go_loopg [3, 4] n (fun gk v3 v4 wr => ∃ (j : Nat) (A2 : Option Addr) (n2 c2 : Nat) (qs : List Ch), v3 = .slice A2 n2 c2 ∧ v4 = .int .i64 (j : Int) ∧ n ≤ j + gk ∧ j ≤ n ∧ Hid (OwnCh w wr (.slice A2 n2 c2) ((cs.map Ch.bs).take j) qs))
  case atStart => exact ⟨0, none, 0, 0, [], rfl, rfl, by omega, by omega, ⟨OwnA.nil_ _ _ _ _, fun k hk => (by cases hk), fun c hc => (by cases hc), fun c hc => (by cases hc), rfl, Below.refl _ _, fun i j ci cj _ hi => by simp at hi⟩⟩
  case round =>
    obtain ⟨j, A2, n2, c2, qs, rfl, rfl, hgk, hj, hC⟩ := hrel
    by_cases hlt : j < n
    · have hj1 : j < cs.length := by rw [← hn.out]; exact hlt
      have hx := List.getElem?_eq_getElem hj1
      obtain ⟨vb, vo, rfl, hvb, y0⟩ := ChSl.at_ (Sl.ext HL.out.1 hC.out.below) hx
      have hRd := Lib.hid ((HL.out.2.1 _ (List.getElem_mem hj1)).ext hC.out.below)
      have hLe := Lib.hid (HL.out.2.2 _ (List.getElem_mem hj1))
      have hX : Hid ((cs.map Ch.bs).take (j + 1) = (cs.map Ch.bs).take j ++ [(cs[j]).bs]) := by rw [Hid, List.take_add_one, List.getElem?_map, hx]; rfl
      generalize cs[j] = f at *
      have b1 : (0 : Int) ≤ (j : Int) := Int.natCast_nonneg _
      have b2 : (j : Int) < (n : Int) := by omega
      have hql : Hid (qs.length = j) := by
        have h := congrArg List.length hC.out.bs
        rw [List.length_map, List.length_take, List.length_map] at h
        rw [Hid]; omega
      have h1 : Hid (qs.length + [f].length ≤ maxLen) := by rw [Hid, hql.out]; simp [maxLen]; omega
      have h2 : Hid ((qs.length + [f].length) * 24 ≤ 140737488355328) := by rw [Hid, hql.out]; simp; omega
      have hcp := Lib.hid (Bytes.copy_any f.bs f.A f.n f.cap wr hRd.out.sl (by have h3 := hLe.out; have h4 := hRd.out.n.out; omega) hRd.out.n)
      clear hx
      go_wp2_with (first | (go_at_call 58; refine (hcp.out).mono ?_; rintro e w6 ⟨v6, rfl, hown6, hb6⟩; obtain ⟨A6, n6, c6, rfl, _, _, _, _⟩ := (OwnA.of_own hown6).form; have HP := Lib.hid (And.intro (OwnA.of_own hown6) (And.intro (fun k (hk : (Value.slice A6 n6 c6).ownBlock = some k) => (hown6.lt hk).1) hb6)); have HO6 : Hid (OwnA (w6.alloc (.cells #[.slice A6 n6 c6] 36)) 36 1 Ch.cells (.slice A2 n2 c2) qs) := (hC.out.own.ext hb6).ext (below_s _ _); have HL6 := Lib.hid (ch_block (w2 := w6) (c := ⟨A6, n6, c6, f.bs⟩)); clear hown6 hb6) | (at_builtin; refine wpList_append_a _ rfl _ _ _ rfl 36 i0 _ 1 24 Try.underlying28 hi0 hz hz1 hz2 rfl (by decide) Ch.cells_len Ch.cells_one _ qs (by rfl) HO6.out _ (some ⟨w6.heap.size, 0, none⟩) [⟨A6, n6, c6, f.bs⟩] 1 1 (by rfl) rfl HL6.out h1.out h2.out ?_; intro v' w9 hown hchg hat; obtain ⟨A9, n9, c9, rfl, _, _, _, _⟩ := hown.form; have HN := Lib.hid (hC.out.step HP.out.2.2 HP.out.1 HP.out.2.1 hown hchg hat); clear hown hchg hat))
      go_roundg (gk - 1)
      case measure => omega
      case rel => exact ⟨j + 1, A9, n9, c9, _, rfl, by go_num, by omega, by omega, by rw [hX.out]; exact HN.out⟩
    · have hall : j = cs.length := by rw [← hn.out]; omega
      have b2 : ¬ (j : Int) < (n : Int) := by omega
      have b5 : decide (j < n) = false := decide_eq_false hlt
      have he : Hid ((cs.map Ch.bs).take j = cs.map Ch.bs) := List.take_of_length_le (by simp; omega)
      clear hall
      go_wp2
      go_ret
      exact ⟨A2, n2, c2, rfl, qs, by rw [← he.out]; exact hC.out⟩
end Go.Proofs.Ytiljpbncfofnhaa.Send
