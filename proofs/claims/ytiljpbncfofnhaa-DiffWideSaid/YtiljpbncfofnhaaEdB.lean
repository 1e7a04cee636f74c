/- edit: the document's Same, Copy, Puts; the program's Puts; the law's Great. -/
import Derived.Test.YtiljpbncfofnhaaEdA
import Derived.Outline
import Derived.BigQuiet
import Derived.Deep.QuietTactic
import Derived.Deep.RegionWith
import Derived.Deep.RegionHeld3
import Derived.Deep.DrawnRows
import Derived.Deep.LoopGhost
import Derived.Deep.DeepCutAuto
import Derived.Laws.EntriesVeiled
namespace Go.Proofs.Ytiljpbncfofnhaa.EdB
open Go.RowKit Go.ChangeShapes Go.WideShapes Go.ChangeAt
set_option linter.unusedVariables false
set_option linter.unusedSimpArgs false
attribute [local go_sem ↓] Go.wp_at_zero Go.wp_at_succ
attribute [local go_sem ↓] edNeq edEq'
attribute [local go_sem] edGuard

set_option maxHeartbeats 1000000 in
theorem rsame_any (l m : List Ed) (A B : Option Addr) (ca cb : Nat) (w : World) (hl : EdSl w w.heap.size A l) (hm : EdSl w w.heap.size B m) (h63 : l.length ≤ maxLen) (h63' : m.length ≤ maxLen) :
    Calls Try.prog 47 #[.slice A l.length ca, .slice B m.length cb] w fun e w' => e = .returned (.bool (eqE l m)) ∧ Below w.heap.size w w' := by
  unfold maxLen at h63 h63'
  by_cases hn : l.length = m.length
  · have hn' : (!((l.length : Int) == (m.length : Int))) = false := by simp [hn]
    have hn2 : ((l.length : Int) == (m.length : Int)) = true := by simp [hn]
    have Hn := Lib.hid hn
    clear hn
    go_enter Try.func47, Try.ntmps47
    go_wp2
    go_loopg [5] l.length (fun g v wr => ∃ j : Nat, l.length ≤ j + g ∧ j ≤ l.length ∧ v = .int .i64 j ∧ Hid (eqE l m = eqE (l.drop j) (m.drop j)) ∧ Below w.heap.size w wr)
    case atStart => exact ⟨0, by omega, by omega, rfl, rfl, Below.refl _ _⟩
    case round =>
      obtain ⟨j, hg, hj, rfl, hf, hB⟩ := hrel
      by_cases hlt : j < l.length
      · have hltm : j < m.length := by rw [← Hn.out]; exact hlt
        obtain ⟨bb, off, rfl, hbb, c0, c1, c2, c3, c4, c5, c6, c7, c8, c9, c10, c11⟩ := EdSl.at_ (hl.below hB) (List.getElem?_eq_getElem hlt)
        obtain ⟨bb', off', rfl, hbb', d0, d1, d2, d3, d4, d5, d6, d7, d8, d9, d10, d11⟩ := EdSl.at_ (hm.below hB) (List.getElem?_eq_getElem hltm)
        have Hd := Lib.hid (List.drop_eq_getElem_cons hlt)
        have Hd' := Lib.hid (List.drop_eq_getElem_cons hltm)
        have b1 : (0 : Int) ≤ (j : Int) := Int.natCast_nonneg _
        have b2 : (j : Int) < (l.length : Int) := by omega
        have b3 : (j : Int) < (m.length : Int) := by omega
        generalize l[j] = f at *
        generalize m[j] = f' at *
        go_wp2
        go_quiet (fail)
        go_wp2
        · rename_i hne
          go_ret
          exact ⟨ret_bool (by rw [hf.out, Hd.out, Hd'.out, eqE]; simp_all), bdrewN hB _⟩
        · rename_i hne
          go_roundg (gk - 1)
          case measure => omega
          case rel => exact ⟨j + 1, by omega, by omega, by go_num, by rw [Hid, hf.out, Hd.out, Hd'.out, eqE]; simp_all, bdrewN hB _⟩
      · go_wp2
        go_ret
        exact ⟨ret_bool (by rw [hf.out, List.drop_of_length_le (by omega), List.drop_of_length_le (by rw [← Hn.out]; omega)]; rfl), hB⟩
  · have hn' : ((l.length : Int) == (m.length : Int)) = false := by simp; omega
    go_enter Try.func47, Try.ntmps47
    go_wp2
    go_ret
    exact ⟨ret_bool (by rw [eqE_len hn]), Below.refl _ _⟩

theorem rcopy_any (l : List Ed) (A : Option Addr) (cap : Nat) (w : World) (hl : EdSl w w.heap.size A l) (hm : l.length ≤ 100000000) :
    Calls Try.prog 41 #[.slice A l.length cap] w (RetOwn w 69 12 Ed.cells l) := by
  obtain ⟨i0, hi, hz, hz1, hz2⟩ := info_parts edInfo
  have hown := Own.nil_ w w.heap.size 69 12 Ed.cells
  go_enter Try.func41, Try.ntmps41
  go_wp2_with (at_builtin; refine wpList_append_sl _ rfl _ _ _ rfl w.heap.size 69 i0 _ 12 104 Try.underlying60 hi hz hz1 hz2 rfl (by decide) Ed.cells_len Ed.cells_one (.slice none 0 0) [] (by rfl) hown _ A l l.length cap (by rfl) rfl hl (by simp [maxLen]; omega) (by simp; omega) (Nat.le_refl _) ?_; intro v' w' hown' hgrow hat)
  go_ret
  exact ⟨v', rfl, by simpa using hown', (Below.refl _ _).grown hgrow (Nat.le_refl _) (by intro k h; cases h)⟩

/-- what Great tells, from element i on, n having been summed -/
def greatE (n i : Nat) : List Ed → Bool
  | [] => false
  | e :: r => if 9000 < n + 20 + e.f.text.size ∨ 200 ≤ i then true else greatE (n + 20 + e.f.text.size) (i + 1) r
theorem greatE_len : ∀ (l : List Ed) (n i : Nat), greatE n i l = false → l = [] ∨ i + l.length ≤ 200
  | [], n, i, _ => .inl rfl
  | f :: r, n, i, h => by
    unfold greatE at h
    split at h
    · simp at h
    · rcases greatE_len r _ _ h with rfl | h'
      · right; simp; omega
      · right; simp; omega
theorem greatE_le {l : List Ed} (h : greatE 0 0 l = false) : l.length ≤ 200 := by
  rcases greatE_len l 0 0 h with rfl | h
  · simp
  · omega
set_option maxHeartbeats 1000000 in
theorem greatE_any (l : List Ed) (A : Option Addr) (cap : Nat) (w : World) (hl : EdSl w w.heap.size A l) (hm : l.length ≤ maxLen) (hw : EdsWf l) :
    Calls Try.prog 39 #[.slice A l.length cap] w fun e w' => e = .returned (.bool (greatE 0 0 l)) ∧ w = w' := by
  unfold maxLen at hm
  go_enter Try.func39, Try.ntmps39
  go_wp2
  go_loop [3, 4] (fun u v => ∃ j n : Nat, j ≤ l.length ∧ n ≤ 9000 ∧ u = .int .i64 n ∧ v = .int .i64 j ∧ Hid (greatE 0 0 l = greatE n j (l.drop j))) (fun _ v => l.length - (intOf v).toNat)
  case atStart => exact ⟨0, 0, by omega, by omega, rfl, rfl, rfl⟩
  case round =>
    obtain ⟨j, n, hj, hn, rfl, rfl, hf⟩ := hrel
    by_cases hlt : j < l.length
    · obtain ⟨bb, off, rfl, hbb, c0, c1, c2, c3, c4, c5, c6, c7, c8, c9, c10, c11⟩ := EdSl.at_ hl (List.getElem?_eq_getElem hlt)
      have Hd := Lib.hid (List.drop_eq_getElem_cons hlt)
      have ht := (hw _ (List.getElem_mem hlt)).f.text
      clear c0 c1 c2 c3 c4 c5 c6 c7 c8 c9 c10
      generalize l[j] = f at *
      by_cases h1 : 9000 < n + 20 + f.f.text.size
      · go_wp2
        go_ret
        exact ⟨ret_bool (by rw [hf.out, Hd.out, greatE, if_pos (.inl h1)]), rfl⟩
      · by_cases h2 : 200 ≤ j
        · go_wp2
          go_ret
          exact ⟨ret_bool (by rw [hf.out, Hd.out, greatE, if_pos (.inr h2)]), rfl⟩
        · go_wp2
          go_round
          case rel => exact ⟨j + 1, n + 20 + f.f.text.size, by omega, by omega, by go_num, by go_num, by rw [Hid, hf.out, Hd.out, greatE, if_neg (by omega)]⟩
          case measure => simp [intOf]; omega
    · go_wp2
      go_ret
      exact ⟨ret_bool (by rw [hf.out, List.drop_of_length_le (by omega)]; rfl), rfl⟩

/-- how many edits put something anew -/
def putsE (l : List Ed) : Nat := l.countP fun e => e.kind == 2 || e.kind == 3
theorem putsE_le (l : List Ed) : putsE l ≤ l.length := List.countP_le_length
theorem puts_any (l : List Ed) (A : Option Addr) (cap : Nat) (w : World) (hl : EdSl w w.heap.size A l) (hm : l.length ≤ maxLen) :
    Calls Try.prog 48 #[.slice A l.length cap] w fun e w' => e = .returned (.int .i64 (putsE l : Int)) ∧ Below w.heap.size w w' := by
  unfold maxLen at hm
  go_enter Try.func48, Try.ntmps48
  go_wp2
  go_loopg [3, 8] l.length (fun g u v wr => ∃ j : Nat, l.length ≤ j + g ∧ j ≤ l.length ∧ u = .int .i64 (putsE (l.take j) : Int) ∧ v = .int .i64 j ∧ Below w.heap.size w wr)
  case atStart => exact ⟨0, by omega, by omega, rfl, rfl, Below.refl _ _⟩
  case round =>
    obtain ⟨j, hg, hj, rfl, rfl, hB⟩ := hrel
    have hpl := putsE_le (l.take j)
    have htl : (l.take j).length ≤ j := List.length_take_le _ _
    by_cases hlt : j < l.length
    · obtain ⟨bb, off, rfl, hbb, c0, c1, c2, c3, c4, c5, c6, c7, c8, c9, c10, c11⟩ := EdSl.at_ (hl.below hB) (List.getElem?_eq_getElem hlt)
      have Hd : Hid (putsE (l.take (j + 1)) = putsE (l.take j) + if (l[j].kind == 2 || l[j].kind == 3) = true then 1 else 0) := by
        rw [Hid, List.take_add_one, List.getElem?_eq_getElem hlt, putsE, List.countP_append]
        simp [putsE, List.countP_cons]
      generalize l[j] = f at *
      generalize putsE (l.take j) = p at *
      have b1 : (0 : Int) ≤ (j : Int) := Int.natCast_nonneg _
      have b2 : (j : Int) < (l.length : Int) := by omega
      have hpm : p ≤ 9223372036854775806 := by omega
      have hbl := World.block_lt_of_cell? wr _ c0
      clear hpl htl
      go_wp2
      all_goals (
        go_roundg (gk - 1)
        case measure => omega
        case rel => exact ⟨j + 1, by omega, by omega, by rw [Hd.out]; simp_all; try go_num, by go_num, by first | exact hB.alloc hB.size _ | exact hB⟩)
    · have e : Hid (l.take j = l) := List.take_of_length_le (by omega)
      rw [e.out]
      clear hpl htl
      go_wp2
      go_ret
      exact ⟨rfl, hB⟩
end Go.Proofs.Ytiljpbncfofnhaa.EdB
