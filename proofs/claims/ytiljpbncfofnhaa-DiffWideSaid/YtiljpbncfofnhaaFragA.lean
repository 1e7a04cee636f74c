/- frag: keys. -/
import Derived.Test.YtiljpbncfofnhaaRows
import Derived.Test.YtiljpbncfofnhaaWords
import Derived.Test.YtiljpbncfofnhaaEqs
import Derived.Outline
import Derived.BigQuiet
import Derived.Deep.QuietTactic
import Derived.Deep.RegionWith
import Derived.Deep.RegionHeld3
import Derived.Deep.DrawnRows
import Derived.Deep.LoopGhost
import Derived.Deep.DeepCutAuto
import Derived.Laws.EntriesVeiled
namespace Go.Proofs.Ytiljpbncfofnhaa.FragA
open Go.RowKit Go.ChangeShapes Go.WideShapes Go.ChangeAt
set_option linter.unusedVariables false
set_option linter.unusedSimpArgs false
attribute [local go_sem ↓] Go.wp_at_zero Go.wp_at_succ
attribute [local go_sem] keyEq frEq'

theorem of_any (f : Fr) (w : World) : Calls Try.prog 106 #[f.agg] w fun e w' => e = .returned (.agg #[.int .i64 f.node, .int .i64 f.part]) ∧ Below w.heap.size w w' := by
  unfold Fr.agg
  go_enter Try.func106, Try.ntmps106
  go_wp2
  exact bodyPost_ret (v := .agg #[.int .i64 f.node, .int .i64 f.part]) (by simp [results, Try.results106, go_sem]) rfl ⟨rfl, (by repeat (first | exact Below.refl _ _ | assumption | refine Below.drew ?_ | refine bdrewN ?_ _ | refine Below.alloc ?_ (by simp; try omega) _ | refine Below.setCell ?_ (by simp; try omega) _))⟩

theorem find1_any (f : Fr) (a b : Addr) (n p : Int) (w : World) (ha : w.cell? a = some (.int .i64 n)) (hb : w.cell? b = some (.int .i64 p)) :
    Calls Try.prog 116 #[f.agg, .pointer (some a), .pointer (some b)] w fun e w' => e = .returned (.bool (f.node == n && f.part == p)) ∧ Below w.heap.size w w' := by
  have la := World.block_lt_of_cell? w _ ha
  have lb := World.block_lt_of_cell? w _ hb
  have hof := of_any f
  have Hof := Lib.hid hof
  clear hof
  unfold Fr.agg at *
  go_enter Try.func116, Try.ntmps116
  go_wp2
  go_region_held3 (fun w' => w'.cell? a = some (.int .i64 n) ∧ w'.cell? b = some (.int .i64 p) ∧ w'.cell? ⟨w.heap.size, 0, none⟩ = some (.int .i64 f.node) ∧ w'.cell? ⟨w.heap.size, 1, none⟩ = some (.int .i64 f.part)
      ∧ w'.cell? ⟨w.heap.size, 2, none⟩ = some (.int .i64 f.depth) ∧ w'.cell? ⟨w.heap.size, 3, none⟩ = some (.int .i64 f.x) ∧ w'.cell? ⟨w.heap.size, 4, none⟩ = some (.int .i64 f.y)
      ∧ w'.cell? ⟨w.heap.size, 5, none⟩ = some (.int .i64 f.w) ∧ w'.cell? ⟨w.heap.size, 6, none⟩ = some (.int .i64 f.h) ∧ w'.cell? ⟨w.heap.size, 7, none⟩ = some (.string f.text))
    (first | go_keep | (go_split_ands; and_intros <;> (rw [hb1.cell (by simp; try omega)]; first | assumption | go_simp)))
    (first | (go_at_call 106; refine (Hof.out _).mono ?_; rintro e w' ⟨rfl, hb1⟩))
  go_wp2
  go_ret
  exact ⟨rfl, bto (((Below.refl _ _).alloc (Nat.le_refl _) _).drew) hb1 (by simp)⟩

/-- where a key stands first, from k on -/
def findFrom (n p : Int) : List Fr → Nat → Int
  | [], _ => -1
  | f :: r, k => if f.node == n && f.part == p then k else findFrom n p r (k + 1)
theorem findFrom_no {n p : Int} {f : Fr} {r : List Fr} {k : Nat} (h : (f.node == n) = false ∨ (f.part == p) = false) : findFrom n p (f :: r) k = findFrom n p r (k + 1) := by
  rw [findFrom, if_neg (by rcases h with h | h <;> simp [h])]
theorem findFrom_yes {n p : Int} {f : Fr} {r : List Fr} {k : Nat} (h : (f.node == n) = true ∧ (f.part == p) = true) : findFrom n p (f :: r) k = k := by
  rw [findFrom, if_pos (by simp [h])]

theorem index_any (l : List Fr) (A : Option Addr) (cap : Nat) (a b : Addr) (n p : Int) (w : World) (hl : FrSl w w.heap.size A l) (hm : l.length ≤ maxLen)
    (ha : w.cell? a = some (.int .i64 n)) (hb : w.cell? b = some (.int .i64 p)) :
    Calls Try.prog 115 #[.slice A l.length cap, .func (Fn.func 116) #[] #[.pointer (some a), .pointer (some b)]] w
      fun e w' => e = .returned (.int .i64 (findFrom n p l 0)) ∧ Below w.heap.size w w' := by
  have la := World.block_lt_of_cell? w _ ha
  have lb := World.block_lt_of_cell? w _ hb
  unfold maxLen at hm
  go_enter Try.func115, Try.ntmps115
  go_wp2
  go_loopg [8] l.length (fun g v wr => ∃ j : Nat, l.length ≤ j + g ∧ v = .int .i64 j ∧ Hid (findFrom n p l 0 = findFrom n p (l.drop j) j) ∧ Below w.heap.size w wr)
  case atStart => exact ⟨0, by omega, rfl, rfl, Below.refl _ _⟩
  case round =>
    obtain ⟨j, hj, rfl, hf, hB⟩ := hrel
    by_cases hlt : j < l.length
    · have hx : l[j]? = some l[j] := List.getElem?_eq_getElem hlt
      obtain ⟨bb, off, rfl, hbb, c0, c1, c2, c3, c4, c5, c6, c7⟩ := FrSl.at_ (hl.below hB) hx
      have ha' : wr.cell? a = _ := (hB.cell la).trans ha
      have hb' : wr.cell? b = _ := (hB.cell lb).trans hb
      have hc := find1_any l[j] a b n p wr ha' hb'
      have Hc := Lib.hid hc
      have Hd := Lib.hid (List.drop_eq_getElem_cons hlt)
      clear hc hx ha' hb'
      generalize l[j] = f at *
      unfold Fr.agg at Hc
      go_wp2_with (go_at_call 116; refine (Hc.out).mono ?_; rintro e w' ⟨rfl, hb1⟩)
      · rename_i hyes
        go_ret
        exact ⟨ret_int (by rw [hf.out, Hd.out, findFrom_yes hyes]), bto hB hb1 hB.size⟩
      · rename_i hno
        go_roundg (gk - 1)
        case measure => omega
        case rel => exact ⟨j + 1, by omega, by go_num, by rw [Hid, hf.out, Hd.out, findFrom_no hno], bto hB hb1 hB.size⟩
    · go_wp2
      go_ret
      exact ⟨ret_int (by rw [hf.out, List.drop_of_length_le (by omega)]; rfl), hB⟩

theorem find_any (l : List Fr) (A : Option Addr) (cap : Nat) (n p : Int) (w : World) (hl : FrSl w w.heap.size A l) (hm : l.length ≤ maxLen) :
    Calls Try.prog 110 #[.slice A l.length cap, .int .i64 n, .int .i64 p] w fun e w' => e = .returned (.int .i64 (findFrom n p l 0)) ∧ Below w.heap.size w w' := by
  have hc := index_any l A cap ⟨w.heap.size, 0, none⟩ ⟨w.heap.size + 1, 0, none⟩ n p ((w.alloc (.cells #[.int .i64 n] 3)).alloc (.cells #[.int .i64 p] 3))
    ((hl.alloc (Nat.le_refl _) _).alloc (by simp) _ |>.more (by simp; omega)) hm (by go_simp) (by go_simp)
  have Hc := Lib.hid hc
  clear hc
  go_enter Try.func110, Try.ntmps110
  go_wp2_with (go_at_call 115; refine (Hc.out).mono ?_; rintro e w' ⟨rfl, hb1⟩)
  go_ret
  exact ⟨rfl, bto (((Below.refl _ _).alloc (Nat.le_refl _) _).alloc (by simp) _) hb1 (by simp; omega)⟩

theorem rfind_any (l : List Fr) (A : Option Addr) (cap : Nat) (n p : Int) (w : World) (hl : FrSl w w.heap.size A l) (hm : l.length ≤ maxLen) :
    Calls Try.prog 78 #[.slice A l.length cap, .int .i64 n, .int .i64 p] w fun e w' => e = .returned (.int .i64 (findFrom n p l 0)) ∧ w = w' := by
  unfold maxLen at hm
  go_enter Try.func78, Try.ntmps78
  go_wp2
  go_loop [7] (fun v => ∃ j : Nat, j ≤ l.length ∧ v = .int .i64 j ∧ Hid (findFrom n p l 0 = findFrom n p (l.drop j) j)) (fun v => l.length - (intOf v).toNat)
  case atStart => exact ⟨0, by omega, rfl, rfl⟩
  case round =>
    obtain ⟨j, hj, rfl, hf⟩ := hrel
    by_cases hlt : j < l.length
    · have hx : l[j]? = some l[j] := List.getElem?_eq_getElem hlt
      obtain ⟨bb, off, rfl, hbb, c0, c1, c2, c3, c4, c5, c6, c7⟩ := FrSl.at_ hl hx
      have Hd := Lib.hid (List.drop_eq_getElem_cons hlt)
      clear hx hj c2 c3 c4 c5 c6 c7
      generalize l[j] = f at *
      by_cases h1 : f.node = n
      · subst h1
        by_cases h2 : f.part = p
        · subst h2
          go_wp2
          go_ret
          exact ⟨ret_int (by rw [hf.out, Hd.out, findFrom, if_pos (by simp)]), rfl⟩
        · have h2' : (f.part == p) = false := by simpa using h2
          go_wp2
          go_round
          case rel => exact ⟨j + 1, by omega, by go_num, by rw [Hid, hf.out, Hd.out, findFrom, if_neg (by simp [h2])]⟩
          case measure => simp [intOf]; omega
      · have h1' : (f.node == n) = false := by simpa using h1
        go_wp2
        go_round
        case rel => exact ⟨j + 1, by omega, by go_num, by rw [Hid, hf.out, Hd.out, findFrom, if_neg (by simp [h1])]⟩
        case measure => simp [intOf]; omega
    · go_wp2
      go_ret
      exact ⟨ret_int (by rw [hf.out, List.drop_of_length_le (by omega)]; rfl), rfl⟩
end Go.Proofs.Ytiljpbncfofnhaa.FragA
