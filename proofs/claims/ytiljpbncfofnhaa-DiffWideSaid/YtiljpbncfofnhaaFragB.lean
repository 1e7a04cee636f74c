/- frag: rows of fragments held against each other, copied; the statement FragKeys' walk. -/
import Derived.Test.YtiljpbncfofnhaaFragA
import Derived.Test.YtiljpbncfofnhaaOwn
import Derived.Outline
import Derived.BigQuiet
import Derived.Deep.QuietTactic
import Derived.Deep.RegionWith
import Derived.Deep.RegionHeld3
import Derived.Deep.DrawnRows
import Derived.Deep.LoopGhost
import Derived.Deep.DeepCutAuto
import Derived.Laws.EntriesVeiled
namespace Go.Proofs.Ytiljpbncfofnhaa.FragB
open Go.RowKit Go.ChangeShapes Go.WideShapes Go.ChangeAt
set_option linter.unusedVariables false
set_option linter.unusedSimpArgs false
attribute [local go_sem ↓] Go.wp_at_zero Go.wp_at_succ
attribute [local go_sem ↓] keyEq frNeq frEq'
attribute [local go_sem] frGuard
open FragA

def eqL : List Fr → List Fr → Bool
  | [], [] => true
  | f :: l, g :: m => Fr.beq f g && eqL l m
  | _, _ => false
theorem eqL_iff : ∀ l m : List Fr, eqL l m = true ↔ l = m
  | [], [] => by simp [eqL]
  | f :: l, g :: m => by simp [eqL, Fr.beq_iff, eqL_iff l m]
  | [], g :: m => by simp [eqL]
  | f :: l, [] => by simp [eqL]
theorem eqL_self (l : List Fr) : eqL l l = true := (eqL_iff l l).2 rfl
theorem eqL_len {l m : List Fr} (h : l.length ≠ m.length) : eqL l m = false := by
  cases he : eqL l m with
  | false => rfl
  | true => exact absurd (congrArg List.length ((eqL_iff l m).1 he)) h

theorem equal_any (l m : List Fr) (A B : Option Addr) (ca cb : Nat) (w : World) (hl : FrSl w w.heap.size A l) (hm : FrSl w w.heap.size B m) (h63 : l.length ≤ maxLen) (h63' : m.length ≤ maxLen) :
    Calls Try.prog 89 #[.slice A l.length ca, .slice B m.length cb] w fun e w' => e = .returned (.bool (eqL l m)) ∧ Below w.heap.size w w' := by
  unfold maxLen at h63 h63'
  by_cases hn : l.length = m.length
  · have hn' : (!((l.length : Int) == (m.length : Int))) = false := by simp [hn]
    have hn2 : ((l.length : Int) == (m.length : Int)) = true := by simp [hn]
    have Hn := Lib.hid hn
    clear hn
    go_enter Try.func89, Try.ntmps89
    go_wp2
    go_loopg [13] l.length (fun g v wr => ∃ j : Nat, l.length ≤ j + g ∧ j ≤ l.length ∧ v = .int .i64 j ∧ Hid (eqL l m = eqL (l.drop j) (m.drop j)) ∧ Below w.heap.size w wr)
    case atStart => exact ⟨0, by omega, by omega, rfl, rfl, Below.refl _ _⟩
    case round =>
      obtain ⟨j, hg, hj, rfl, hf, hB⟩ := hrel
      by_cases hlt : j < l.length
      · have hltm : j < m.length := by rw [← Hn.out]; exact hlt
        obtain ⟨bb, off, rfl, hbb, c0, c1, c2, c3, c4, c5, c6, c7⟩ := FrSl.at_ (hl.below hB) (List.getElem?_eq_getElem hlt)
        obtain ⟨bb', off', rfl, hbb', d0, d1, d2, d3, d4, d5, d6, d7⟩ := FrSl.at_ (hm.below hB) (List.getElem?_eq_getElem hltm)
        have Hd := Lib.hid (List.drop_eq_getElem_cons hlt)
        have Hd' := Lib.hid (List.drop_eq_getElem_cons hltm)
        have b1 : (0 : Int) ≤ (j : Int) := Int.natCast_nonneg _
        have b2 : (j : Int) < (l.length : Int) := by omega
        have b3 : (j : Int) < (m.length : Int) := by omega
        generalize l[j] = f at *
        generalize m[j] = f' at *
        go_wp2
        go_quiet (fail)
        go_wp2
        · rename_i hne
          go_ret
          exact ⟨ret_bool (by rw [hf.out, Hd.out, Hd'.out, eqL]; simp_all), bdrewN hB _⟩
        · rename_i hne
          go_roundg (gk - 1)
          case measure => omega
          case rel => exact ⟨j + 1, by omega, by omega, by go_num, by rw [Hid, hf.out, Hd.out, Hd'.out, eqL]; simp_all, bdrewN hB _⟩
      · go_wp2
        go_ret
        exact ⟨ret_bool (by rw [hf.out, List.drop_of_length_le (by omega), List.drop_of_length_le (by rw [← Hn.out]; omega)]; rfl), hB⟩
  · have hn' : ((l.length : Int) == (m.length : Int)) = false := by simp; omega
    go_enter Try.func89, Try.ntmps89
    go_wp2
    go_ret
    exact ⟨ret_bool (by rw [eqL_len hn]), Below.refl _ _⟩

theorem same_any (l m : List Fr) (A B : Option Addr) (ca cb : Nat) (w : World) (hl : FrSl w w.heap.size A l) (hm : FrSl w w.heap.size B m) (h63 : l.length ≤ maxLen) (h63' : m.length ≤ maxLen) :
    Calls Try.prog 57 #[.slice A l.length ca, .slice B m.length cb] w fun e w' => e = .returned (.bool (eqL l m)) ∧ Below w.heap.size w w' := by
  go_enter Try.func57, Try.ntmps57
  go_wp2_with (go_at_call 89; refine (equal_any l m A B ca cb w hl hm h63 h63').mono ?_; rintro e w' ⟨rfl, hb1⟩)
  go_ret
  exact ⟨rfl, hb1⟩

theorem rsame_any (l m : List Fr) (A B : Option Addr) (ca cb : Nat) (w : World) (hl : FrSl w w.heap.size A l) (hm : FrSl w w.heap.size B m) (h63 : l.length ≤ maxLen) (h63' : m.length ≤ maxLen) :
    Calls Try.prog 46 #[.slice A l.length ca, .slice B m.length cb] w fun e w' => e = .returned (.bool (eqL l m)) ∧ Below w.heap.size w w' := by
  unfold maxLen at h63 h63'
  by_cases hn : l.length = m.length
  · have hn' : (!((l.length : Int) == (m.length : Int))) = false := by simp [hn]
    have hn2 : ((l.length : Int) == (m.length : Int)) = true := by simp [hn]
    have Hn := Lib.hid hn
    clear hn
    go_enter Try.func46, Try.ntmps46
    go_wp2
    go_loopg [5] l.length (fun g v wr => ∃ j : Nat, l.length ≤ j + g ∧ j ≤ l.length ∧ v = .int .i64 j ∧ Hid (eqL l m = eqL (l.drop j) (m.drop j)) ∧ Below w.heap.size w wr)
    case atStart => exact ⟨0, by omega, by omega, rfl, rfl, Below.refl _ _⟩
    case round =>
      obtain ⟨j, hg, hj, rfl, hf, hB⟩ := hrel
      by_cases hlt : j < l.length
      · have hltm : j < m.length := by rw [← Hn.out]; exact hlt
        obtain ⟨bb, off, rfl, hbb, c0, c1, c2, c3, c4, c5, c6, c7⟩ := FrSl.at_ (hl.below hB) (List.getElem?_eq_getElem hlt)
        obtain ⟨bb', off', rfl, hbb', d0, d1, d2, d3, d4, d5, d6, d7⟩ := FrSl.at_ (hm.below hB) (List.getElem?_eq_getElem hltm)
        have Hd := Lib.hid (List.drop_eq_getElem_cons hlt)
        have Hd' := Lib.hid (List.drop_eq_getElem_cons hltm)
        have b1 : (0 : Int) ≤ (j : Int) := Int.natCast_nonneg _
        have b2 : (j : Int) < (l.length : Int) := by omega
        have b3 : (j : Int) < (m.length : Int) := by omega
        generalize l[j] = f at *
        generalize m[j] = f' at *
        go_wp2
        go_quiet (fail)
        go_wp2
        · rename_i hne
          go_ret
          exact ⟨ret_bool (by rw [hf.out, Hd.out, Hd'.out, eqL]; simp_all), bdrewN hB _⟩
        · rename_i hne
          go_roundg (gk - 1)
          case measure => omega
          case rel => exact ⟨j + 1, by omega, by omega, by go_num, by rw [Hid, hf.out, Hd.out, Hd'.out, eqL]; simp_all, bdrewN hB _⟩
      · go_wp2
        go_ret
        exact ⟨ret_bool (by rw [hf.out, List.drop_of_length_le (by omega), List.drop_of_length_le (by rw [← Hn.out]; omega)]; rfl), hB⟩
  · have hn' : ((l.length : Int) == (m.length : Int)) = false := by simp; omega
    go_enter Try.func46, Try.ntmps46
    go_wp2
    go_ret
    exact ⟨ret_bool (by rw [eqL_len hn]), Below.refl _ _⟩

theorem frInfo : (Try.prog.info? 67).map (fun i => (i.zero, i.size, i.bytes)) = some (some (.agg #[.int .i64 0, .int .i64 0, .int .i64 0, .int .i64 0, .int .i64 0, .int .i64 0, .int .i64 0, .string ByteArray.empty]), 8, 72) := by kernel_rfl

theorem copy_any (l : List Fr) (A : Option Addr) (cap : Nat) (w : World) (hl : FrSl w w.heap.size A l) (hm : l.length ≤ 100000000) :
    Calls Try.prog 40 #[.slice A l.length cap] w (RetOwn w 67 8 Fr.cells l) := by
  obtain ⟨i0, hi, hz, hz1, hz2⟩ := info_parts frInfo
  have hown := Own.nil_ w w.heap.size 67 8 Fr.cells
  go_enter Try.func40, Try.ntmps40
  go_wp2_with (at_builtin; refine wpList_append_sl _ rfl _ _ _ rfl w.heap.size 67 i0 _ 8 72 Try.underlying59 hi hz hz1 hz2 rfl (by decide) Fr.cells_len Fr.cells_one (.slice none 0 0) [] rfl hown _ A l l.length cap rfl rfl hl (by simp [maxLen]; omega) (by simp; omega) (Nat.le_refl _) ?_; intro v' w' hown' hgrow hat)
  go_ret
  exact ⟨v', rfl, by simpa using hown', (Below.refl _ _).grown hgrow (Nat.le_refl _) (by intro k h; cases h)⟩

def FrsWf (l : List Fr) : Prop := ∀ f ∈ l, f.Wf

/-- what Great tells, from element i on, n having been summed -/
def greatFrom (n i : Nat) : List Fr → Bool
  | [] => false
  | f :: r => if 9000 < n + 20 + f.text.size ∨ 200 ≤ i then true else greatFrom (n + 20 + f.text.size) (i + 1) r
theorem great_len : ∀ (l : List Fr) (n i : Nat), greatFrom n i l = false → l = [] ∨ i + l.length ≤ 200
  | [], n, i, _ => .inl rfl
  | f :: r, n, i, h => by
    unfold greatFrom at h
    split at h
    · simp at h
    · rcases great_len r _ _ h with rfl | h'
      · right; simp; omega
      · right; simp; omega
theorem great_le {l : List Fr} (h : greatFrom 0 0 l = false) : l.length ≤ 200 := by
  rcases great_len l 0 0 h with rfl | h
  · simp
  · omega

theorem great_any (l : List Fr) (A : Option Addr) (cap : Nat) (w : World) (hl : FrSl w w.heap.size A l) (hm : l.length ≤ maxLen) (hw : FrsWf l) :
    Calls Try.prog 38 #[.slice A l.length cap] w fun e w' => e = .returned (.bool (greatFrom 0 0 l)) ∧ w = w' := by
  unfold maxLen at hm
  go_enter Try.func38, Try.ntmps38
  go_wp2
  go_loop [3, 4] (fun u v => ∃ j n : Nat, j ≤ l.length ∧ n ≤ 9000 ∧ u = .int .i64 n ∧ v = .int .i64 j ∧ Hid (greatFrom 0 0 l = greatFrom n j (l.drop j))) (fun _ v => l.length - (intOf v).toNat)
  case atStart => exact ⟨0, 0, by omega, by omega, rfl, rfl, rfl⟩
  case round =>
    obtain ⟨j, n, hj, hn, rfl, rfl, hf⟩ := hrel
    by_cases hlt : j < l.length
    · obtain ⟨bb, off, rfl, hbb, c0, c1, c2, c3, c4, c5, c6, c7⟩ := FrSl.at_ hl (List.getElem?_eq_getElem hlt)
      have Hd := Lib.hid (List.drop_eq_getElem_cons hlt)
      have ht := (hw _ (List.getElem_mem hlt)).text
      clear c0 c1 c2 c3 c4 c5 c6
      generalize l[j] = f at *
      by_cases h1 : 9000 < n + 20 + f.text.size
      · go_wp2
        go_ret
        exact ⟨ret_bool (by rw [hf.out, Hd.out, greatFrom, if_pos (.inl h1)]), rfl⟩
      · by_cases h2 : 200 ≤ j
        · go_wp2
          go_ret
          exact ⟨ret_bool (by rw [hf.out, Hd.out, greatFrom, if_pos (.inr h2)]), rfl⟩
        · go_wp2
          go_round
          case rel => exact ⟨j + 1, n + 20 + f.text.size, by omega, by omega, by go_num, by go_num, by rw [Hid, hf.out, Hd.out, greatFrom, if_neg (by omega)]⟩
          case measure => simp [intOf]; omega
    · go_wp2
      go_ret
      exact ⟨ret_bool (by rw [hf.out, List.drop_of_length_le (by omega)]; rfl), rfl⟩
end Go.Proofs.Ytiljpbncfofnhaa.FragB
