/- diff: a map whose keys are arrays of two numbers: looked up, a new key stored; places. -/
import Derived.Test.YtiljpbncfofnhaaDfD
import Derived.Test.YtiljpbncfofnhaaRange
import Derived.Maps.OwnIn
import Derived.Outline
import Derived.BigQuiet
import Derived.Deep.QuietTactic
import Derived.Deep.RegionWith
import Derived.Deep.RegionHeld3
import Derived.Deep.DrawnRows
import Derived.Deep.LoopGhost
import Derived.Deep.DeepCutAuto
import Derived.Laws.EntriesVeiled
namespace Go.Proofs.Ytiljpbncfofnhaa.Dif
open Go.RowKit Go.ChangeShapes Go.WideShapes Go.ChangeAt
set_option linter.unusedVariables false
set_option linter.unusedSimpArgs false
attribute [local go_sem ↓] Go.wp_at_zero Go.wp_at_succ
open FragA FragB MayA Tree EdC EdB

theorem keyEqD (a b c d : Int) (w : World) : (Op.equalIn 10000 130 (.agg #[.int .i64 a, .int .i64 b]) (.agg #[.int .i64 c, .int .i64 d])).run Try.prog w = .ok (a == c && b == d) w := by
  have hu : Try.prog.underlying 130 = some (.array 2 3) := by kernel_rfl
  obtain ⟨i, hi⟩ : ∃ i, Try.prog.info? 3 = some i := Option.isSome_iff_exists.1 (by kernel_rfl)
  have h1 : Try.prog.cellsOf 3 = 1 := by kernel_rfl
  have hk := Try.underlying3
  have hr : List.range 2 = [0, 1] := rfl
  rw [run_equalIn_array w 9999 _ _ hu hi, h1, hr]
  have hp : Try.prog.plainKey 3 = true := by kernel_rfl
  simp only [Op.eqItems, Sem.run_bind, Nat.zero_mul, Nat.one_mul]
  rw [run_part_plain w hp (v := .int .i64 a) rfl]
  simp only [Result.andThen_ok]
  rw [run_part_plain w hp (v := .int .i64 c) rfl]
  simp only [Result.andThen_ok]
  rw [run_equalIn_int w 9998 _ _ _ _ _ hk]
  simp only [Result.andThen_ok]
  cases hac : (a == c)
  · simp
  · simp only [Bool.not_true, Bool.false_eq_true, if_false, Sem.run_bind]
    rw [run_part_plain w hp (v := .int .i64 b) rfl]
    simp only [Result.andThen_ok]
    rw [run_part_plain w hp (v := .int .i64 d) rfl]
    simp only [Result.andThen_ok]
    rw [run_equalIn_int w 9998 _ _ _ _ _ hk]
    simp only [Result.andThen_ok]
    cases (b == d) <;> simp

/-- block r is a map that holds the keys ks, each with its number -/
def KMap (w : World) (r : Nat) (ks : List ((Int × Int) × Int)) : Prop :=
  ∃ es clock, w.heap[r]? = some (.map es clock) ∧ es.toList.map (fun e => (e.key, e.val)) = ks.map (fun k => (keyV k.1, .int .i64 k.2))
theorem KMap.lt {w : World} {r : Nat} {ks : List ((Int × Int) × Int)} (h : KMap w r ks) : r < w.heap.size := by
  obtain ⟨es, c, h, _⟩ := h
  exact (Array.getElem?_eq_some_iff.1 h).1
theorem KMap.chg {w w' : World} {r : Nat} {ks : List ((Int × Int) × Int)} {S : Nat → Prop} (h : KMap w r ks) (hc : Chg S w w') (hn : ¬ S r) : KMap w' r ks := by
  have hl := h.lt
  obtain ⟨es, c, h, he⟩ := h
  exact ⟨es, c, (hc.block r hl hn).trans h, he⟩
theorem KMap.ext {w w' : World} {r : Nat} {ks : List ((Int × Int) × Int)} (h : KMap w r ks) (hb : Below w.heap.size w w') : KMap w' r ks := h.chg (Chg.of_ext (S := fun _ => False) hb) (fun h => h)
theorem KMap.far {w : World} {r : Nat} {ks : List ((Int × Int) × Int)} {g : Nat} {t : TypeId} {cs : Array Value} (h : KMap w r ks) (hb : Blk w g t cs) : r ≠ g := by
  rintro rfl
  obtain ⟨es, c, h, _⟩ := h
  rw [Blk, h] at hb
  cases hb
/-- what a key has -/
def atKey (a b : Int) : List ((Int × Int) × Int) → Option Int
  | [] => none
  | k :: r => if a = k.1.1 ∧ b = k.1.2 then some k.2 else atKey a b r

section
variable (w : World)
theorem run_checkKeyD (b : Bool) (x y : Int) : (Instr.checkKey b 10000 130 (.agg #[.int .i64 x, .int .i64 y])).run Try.prog w = .ok () w := by
  have hu : Try.prog.underlying 130 = some (.array 2 3) := by kernel_rfl
  obtain ⟨i, hi⟩ : ∃ i, Try.prog.info? 3 = some i := Option.isSome_iff_exists.1 (by kernel_rfl)
  have h1 : Try.prog.cellsOf 3 = 1 := by kernel_rfl
  have hp : Try.prog.plainKey 3 = true := by kernel_rfl
  have hk := Try.underlying3
  have hint : ∀ (n : Nat) (z : Int) (w : World), (Instr.checkKey b (n + 1) 3 (.int .i64 z)).run Try.prog w = .ok () w := fun n z w => by
    simp [Instr.checkKey, run_underlying hk]
  rw [show (10000 : Nat) = 9999 + 1 from rfl]
  unfold Instr.checkKey
  simp only [Sem.run_bind, run_underlying hu, Result.andThen_ok]
  simp only [Std.Legacy.Range.forIn_eq_forIn_range', Std.Legacy.Range.size, Nat.sub_zero, Nat.add_one_sub_one, Nat.div_one]
  rw [show List.range' 0 2 = [0, 1] from rfl]
  simp only [List.forIn_cons, List.forIn_nil, Sem.run_bind, run_sizeOf _ hi, Result.andThen_ok, h1, Nat.zero_mul, Nat.one_mul]
  rw [run_part_plain w hp (v := .int .i64 x) rfl]
  simp only [Result.andThen_ok, hint 9998, Sem.run_pure, Sem.run_bind, run_sizeOf _ hi, h1, Nat.one_mul]
  rw [run_part_plain w hp (v := .int .i64 y) rfl]
  simp only [Result.andThen_ok, hint 9998, Sem.run_pure]

theorem run_findAskingD (a b : Int) : ∀ (es : List MapEntry) (ks : List ((Int × Int) × Int)) (i : Nat), es.map (fun e => (e.key, e.val)) = ks.map (fun k => (keyV k.1, .int .i64 k.2)) →
    ∃ r, (Instr.findAsking 130 (.agg #[.int .i64 a, .int .i64 b]) es i).run Try.prog w = .ok r w ∧ (match atKey a b ks with | some z => ∃ j, r = some (j, .int .i64 z) | none => r = none)
  | [], ks, i, h => by
    have : ks = [] := by cases ks <;> simp_all
    subst this
    exact ⟨none, rfl, rfl⟩
  | e :: es, [], i, h => by simp at h
  | e :: es, k :: ks, i, h => by
    simp only [List.map_cons, List.cons.injEq, Prod.mk.injEq] at h
    obtain ⟨⟨h1, h2⟩, h3⟩ := h
    have hq := keyEqD a b k.1.1 k.1.2 w
    unfold Instr.findAsking
    simp only [Sem.run_bind, h1, keyV, Op.equal, Op.maxDepth, hq, Result.andThen_ok]
    by_cases hk : a = k.1.1 ∧ b = k.1.2
    · have he : (a == k.1.1 && b == k.1.2) = true := by simp [hk]
      rw [he]
      exact ⟨_, rfl, by
        rw [atKey, if_pos hk]
        exact ⟨i, by rw [h2]⟩⟩
    · have he : (a == k.1.1 && b == k.1.2) = false := by
        cases h' : (a == k.1.1 && b == k.1.2)
        · rfl
        · simp at h'; exact absurd h' hk
      rw [he]
      obtain ⟨r, hr, hr2⟩ := run_findAskingD a b es ks (i + 1) h3
      refine ⟨r, hr, ?_⟩
      rw [atKey, if_neg hk]
      exact hr2

theorem run_findKeyD (a b : Int) (es : List MapEntry) (ks : List ((Int × Int) × Int)) (h : es.map (fun e => (e.key, e.val)) = ks.map (fun k => (keyV k.1, .int .i64 k.2))) :
    ∃ r, (Instr.findKey 130 (.agg #[.int .i64 a, .int .i64 b]) es).run Try.prog w = .ok r w ∧ (match atKey a b ks with | some z => ∃ j, r = some (j, .int .i64 z) | none => r = none) := by
  have hu : Try.prog.underlying 130 = some (.array 2 3) := by kernel_rfl
  unfold Instr.findKey
  simp only [Sem.run_bind, run_underlying hu, Result.andThen_ok]
  rcases es with _ | ⟨e, es⟩
  · have : ks = [] := by cases ks <;> simp_all
    subst this
    exact ⟨none, rfl, rfl⟩
  · have hn : Instr.findNow (.array 2 3) (.agg #[.int .i64 a, .int .i64 b]) (e :: es) 0 = none := by
      rcases ks with _ | ⟨k, ks⟩
      · simp at h
      · simp only [List.map_cons, List.cons.injEq, Prod.mk.injEq] at h
        unfold Instr.findNow
        rw [h.1.1]
        rfl
    rw [hn]
    exact run_findAskingD w a b (e :: es) ks 0 h

/-- m[k] with its ok -/
theorem run_lookup_keyD {r : Nat} {ks : List ((Int × Int) × Int)} (h : KMap w r ks) (a b : Int) :
    (Instr.lookup 124 (.map (some r)) (.agg #[.int .i64 a, .int .i64 b]) true).run Try.prog w = .ok (.tuple #[.int .i64 ((atKey a b ks).getD 0), .bool (atKey a b ks).isSome]) w := by
  obtain ⟨es, c, hb, he⟩ := h
  obtain ⟨r', hr, hr2⟩ := run_findKeyD w a b es.toList ks he
  have hu := Try.underlying124
  have hz : (zeroValue 3).run Try.prog w = .ok (.int .i64 0) w := by kernel_rfl
  have hg : (getObj r).run Try.prog w = .ok (.map es c) w := by simp [getObj, Sem.run, hb]
  unfold Instr.lookup
  simp only [Sem.run_bind, run_underlying hu, Result.andThen_ok, hg, Sem.run_pure, run_checkKeyD, hr]
  cases hk : atKey a b ks with
  | some z =>
    rw [hk] at hr2
    obtain ⟨j, rfl⟩ := hr2
    simp
  | none =>
    rw [hk] at hr2
    subst hr2
    simp [Sem.run_bind, hz]

theorem run_store_keyD {r : Nat} {ks : List ((Int × Int) × Int)} (h : KMap w r ks) (a b z : Int) (hn : atKey a b ks = none) :
    ∃ w', (Instr.mapUpdate 124 (.map (some r)) (.agg #[.int .i64 a, .int .i64 b]) (.int .i64 z)).run Try.prog w = .ok () w' ∧ KMap w' r (ks ++ [((a, b), z)]) ∧ Chg (fun k => k = r) w w' := by
  have hl := h.lt
  obtain ⟨es, c, hb, he⟩ := h
  obtain ⟨r', hr, hr2⟩ := run_findKeyD w a b es.toList ks he
  have hu := Try.underlying124
  have hg : (getObj r).run Try.prog w = .ok (.map es c) w := by simp [getObj, Sem.run, hb]
  rw [hn] at hr2
  subst hr2
  refine ⟨w.putObj r (.map (es.push { key := .agg #[.int .i64 a, .int .i64 b], val := .int .i64 z, born := c }) (c + 1)), ?_, ?_, (Chg.refl (fun k => k = r) w).putObj (r := r) (fun _ => rfl) _⟩
  · unfold Instr.mapUpdate
    simp only [Sem.run_bind, run_underlying hu, Result.andThen_ok, hg, run_checkKeyD, hr]
    simp [setObj, Sem.run, hb, World.putObj]
  · exact ⟨_, _, World.putObj_heap_same hl, by simp [he, keyV]⟩
end

/-! ### the places of fragments -/
def placesL : List Fr → Nat → List ((Int × Int) × Int)
  | [], _ => []
  | f :: r, i => ((f.node, f.part), (i : Int)) :: placesL r (i + 1)
theorem placesL_append : ∀ (l m : List Fr) (i : Nat), placesL (l ++ m) i = placesL l i ++ placesL m (i + l.length)
  | [], m, i => by simp [placesL]
  | f :: l, m, i => by simp only [List.cons_append, placesL, placesL_append l m (i + 1), List.length_cons]; rw [show i + 1 + l.length = i + (l.length + 1) from by omega]
theorem atKey_find (a b : Int) : ∀ (l : List Fr) (i : Nat), atKey a b (placesL l i) = if findFrom a b l i < 0 then none else some (findFrom a b l i)
  | [], i => by simp [placesL, atKey, findFrom]
  | f :: l, i => by
    rw [placesL, atKey]
    by_cases h : f.node = a ∧ f.part = b
    · rw [if_pos (⟨h.1.symm, h.2.symm⟩ : a = f.node ∧ b = f.part), findFrom_yes ⟨by simp [h.1], by simp [h.2]⟩, if_neg (by omega)]
    · have h' : (f.node == a) = false ∨ (f.part == b) = false := by
        by_cases h1 : f.node = a
        · exact .inr (by simpa using fun h2 => h ⟨h1, h2⟩)
        · exact .inl (by simpa using h1)
      rw [if_neg (fun k : a = f.node ∧ b = f.part => h ⟨k.1.symm, k.2.symm⟩), findFrom_no h', atKey_find a b l (i + 1)]
/-- the keys are each one's own -/
def KeysOwn (l : List Fr) : Prop := ∀ (i : Nat) (f : Fr), l[i]? = some f → atKey f.node f.part (placesL (l.take i) 0) = none
theorem find_append {a b : Int} : ∀ (l m : List Fr) (i : Nat), findFrom a b l i ≥ 0 → findFrom a b (l ++ m) i = findFrom a b l i
  | [], m, i, h => by simp [findFrom] at h
  | f :: l, m, i, h => by
    rw [List.cons_append, findFrom, findFrom]
    rw [findFrom] at h
    split
    · rfl
    · rename_i hc
      rw [if_neg hc] at h
      exact find_append l m (i + 1) h
theorem find_le {a b : Int} : ∀ (l : List Fr) (i : Nat), findFrom a b l i < (i + l.length : Int)
  | [], i => by simp [findFrom]; omega
  | f :: l, i => by
    rw [findFrom]
    split
    · simp; omega
    · have := find_le (a := a) (b := b) l (i + 1); simp; omega
theorem keys_of_ok {l : List Fr} (h : allOk l = true) : KeysOwn l := by
  intro i f hi
  have hil := (List.getElem?_eq_some_iff.1 hi).1
  rw [atKey_find]
  split
  · rfl
  · rename_i hc
    exfalso
    have h1 := find_append (l.take i) (l.drop i) 0 (a := f.node) (b := f.part) (by omega)
    rw [List.take_append_drop] at h1
    have h2 := find_le (a := f.node) (b := f.part) (l.take i) 0
    rw [List.length_take] at h2
    have hok := (allOk_iff l).1 h i hil
    unfold okAt at hok
    rw [hi] at hok
    simp only [Bool.and_eq_true] at hok
    have h3 := hok.1.2
    simp at h3
    omega
theorem keys_of_chk {l : List Fr} (h : chk l = 0) : KeysOwn l := keys_of_ok (FCheck.chk_zero h).1
theorem keyAt_places (a : List Fr) (g : Fr) : atKey g.node g.part (placesL a 0) = (keyAt a g).map (fun k : Nat => (k : Int)) := by
  rw [atKey_find, keyAt]
  by_cases hc : findFrom g.node g.part a 0 < 0
  · rw [if_pos hc, if_pos hc]; rfl
  · rw [if_neg hc, if_neg hc, Option.map_some]
    congr 1
    omega

set_option maxRecDepth 100000 in
theorem places_any (l : List Fr) (A : Option Addr) (n cap : Nat) (w : World) (hl : FrSl w w.heap.size A l) (hk : KeysOwn l) (hn : Hid (n = l.length)) (h63 : n ≤ maxLen) :
    Calls Try.prog 81 #[.slice A n cap] w fun e w' => ∃ r, e = .returned (.map (some r)) ∧ w.heap.size ≤ r ∧ KMap w' r (placesL l 0) ∧ Below w.heap.size w w' := by
  unfold maxLen at h63
  have hmm : ∀ (w : World), (Instr.makeMap 124 (some (.int .i64 (n : Int)))).run Try.prog w = .ok (.map (some w.heap.size)) (w.alloc (.map #[] 0)) := fun w => by
    simp [Instr.makeMap, run_underlying Try.underlying124]; rfl
  have HK := Lib.hid hk
  clear hk
  have HB0 : Hid (KMap (w.alloc (.map #[] 0)) w.heap.size (placesL (l.take 0) 0) ∧ Below w.heap.size w (w.alloc (.map #[] 0))) := ⟨⟨#[], 0, heap_alloc_new w _, rfl⟩, (Below.refl _ _).alloc (Nat.le_refl _) _⟩
  go_enter Try.func81, Try.ntmps81
  go_wp2
  go_loopg [11] n (fun g v wr => ∃ j : Nat, n ≤ j + g ∧ j ≤ n ∧ v = .int .i64 j ∧ Hid (KMap wr w.heap.size (placesL (l.take j) 0) ∧ Below w.heap.size w wr))
  case atStart => exact ⟨0, by omega, by omega, rfl, HB0⟩
  case round =>
    obtain ⟨j, hg, hj, rfl, HB⟩ := hrel
    by_cases hlt : j < n
    · have hjl : j < l.length := by rw [← hn.out]; exact hlt
      have hx : l[j]? = some l[j] := List.getElem?_eq_getElem hjl
      have hB2 := HB.out.2
      obtain ⟨bb, off, rfl, hbb, c0, c1, c2, c3, c4, c5, c6, c7⟩ := FrSl.at_ (hl.below hB2) hx
      have hkn := HK.out j _ hx
      have ht : l.take (j + 1) = l.take j ++ [l[j]] := by rw [List.take_add_one, hx]; rfl
      have Ht := Lib.hid ht
      have hlen : (l.take j).length = j := by rw [List.length_take]; omega
      clear hx ht
      generalize l[j] = f at *
      have hKM : KMap (wr.alloc (.cells #[.int .i64 f.node, .int .i64 f.part, .int .i64 f.depth, .int .i64 f.x, .int .i64 f.y, .int .i64 f.w, .int .i64 f.h, .string f.text] 67)) w.heap.size (placesL (l.take j) 0) := HB.out.1.ext (EdF.below_a _ _)
      obtain ⟨w4, hst, km4, hc4⟩ := run_store_keyD _ hKM f.node f.part (j : Int) hkn
      have HN : Hid (KMap w4 w.heap.size (placesL (l.take (j + 1)) 0) ∧ Below w.heap.size w w4) := by
        refine ⟨?_, (hB2.alloc hB2.size _).trans (hc4.below (by have := hB2.size; simp; omega) (fun i hi e => by omega))⟩
        rw [Ht.out, placesL_append, hlen, Nat.zero_add]
        exact km4
      have b1 : (0 : Int) ≤ (j : Int) := Int.natCast_nonneg _
      have b2 : (j : Int) < (n : Int) := by omega
      clear hc4 km4 hKM hkn hB2
      go_wp2
      go_roundg (gk - 1)
      case measure => omega
      case rel => exact ⟨j + 1, by omega, by omega, by go_num, HN⟩
    · have HF : Hid (KMap wr w.heap.size (placesL l 0)) := by
        have h := HB.out.1
        rw [List.take_of_length_le (by rw [← hn.out]; omega)] at h
        exact h
      go_wp2
      refine bodyPost_ret (v := .map (some w.heap.size)) (by simp [results, Try.results81, go_sem]) rfl ⟨_, rfl, Nat.le_refl _, HF.out, HB.out.2⟩
end Go.Proofs.Ytiljpbncfofnhaa.Dif
