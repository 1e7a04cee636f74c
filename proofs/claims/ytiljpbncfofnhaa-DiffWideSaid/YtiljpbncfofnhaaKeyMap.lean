/- A map whose keys are arrays of two numbers, each stored with 1: looked up, and a new key stored. -/
import Derived.Test.YtiljpbncfofnhaaEqs
import Derived.Test.YtiljpbncfofnhaaRange
import Derived.Maps.OwnIn
namespace Go.Proofs.Ytiljpbncfofnhaa
open Go.RowKit
set_option linter.unusedVariables false
set_option linter.unusedSimpArgs false

def keyV (k : Int × Int) : Value := .agg #[.int .i64 k.1, .int .i64 k.2]
/-- block r is a map that holds the keys ks, each with 1 -/
def KeyMap (w : World) (r : Nat) (ks : List (Int × Int)) : Prop :=
  ∃ es clock, w.heap[r]? = some (.map es clock) ∧ es.toList.map (fun e => (e.key, e.val)) = ks.map (fun k => (keyV k, .int .i64 1))

theorem KeyMap.lt {w : World} {r : Nat} {ks : List (Int × Int)} (h : KeyMap w r ks) : r < w.heap.size := by
  obtain ⟨es, c, h, _⟩ := h
  exact (Array.getElem?_eq_some_iff.1 h).1
theorem KeyMap.chg {w w' : World} {r : Nat} {ks : List (Int × Int)} {S : Nat → Prop} (h : KeyMap w r ks) (hc : Chg S w w') (hn : ¬ S r) : KeyMap w' r ks := by
  have hl := h.lt
  obtain ⟨es, c, h, he⟩ := h
  exact ⟨es, c, (hc.block r hl hn).trans h, he⟩

section
variable (w : World)
theorem run_checkKey (b : Bool) (x y : Int) : (Instr.checkKey b 10000 144 (.agg #[.int .i64 x, .int .i64 y])).run Try.prog w = .ok () w := by
  have hu : Try.prog.underlying 144 = some (.array 2 3) := by kernel_rfl
  obtain ⟨i, hi⟩ : ∃ i, Try.prog.info? 3 = some i := Option.isSome_iff_exists.1 (by kernel_rfl)
  have h1 : Try.prog.cellsOf 3 = 1 := by kernel_rfl
  have hp : Try.prog.plainKey 3 = true := by kernel_rfl
  have hk := Try.underlying3
  have hint : ∀ (n : Nat) (z : Int) (w : World), (Instr.checkKey b (n + 1) 3 (.int .i64 z)).run Try.prog w = .ok () w := fun n z w => by
    simp [Instr.checkKey, run_underlying hk]
  rw [show (10000 : Nat) = 9999 + 1 from rfl]
  unfold Instr.checkKey
  simp only [Sem.run_bind, run_underlying hu, Result.andThen_ok]
  simp only [Std.Legacy.Range.forIn_eq_forIn_range', Std.Legacy.Range.size, Nat.sub_zero, Nat.add_one_sub_one, Nat.div_one]
  rw [show List.range' 0 2 = [0, 1] from rfl]
  simp only [List.forIn_cons, List.forIn_nil, Sem.run_bind, run_sizeOf _ hi, Result.andThen_ok, h1, Nat.zero_mul, Nat.one_mul]
  rw [run_part_plain w hp (v := .int .i64 x) rfl]
  simp only [Result.andThen_ok, hint 9998, Sem.run_pure, Sem.run_bind, run_sizeOf _ hi, h1, Nat.one_mul]
  rw [run_part_plain w hp (v := .int .i64 y) rfl]
  simp only [Result.andThen_ok, hint 9998, Sem.run_pure]

theorem run_findAsking (a b : Int) : ∀ (es : List MapEntry) (ks : List (Int × Int)) (i : Nat), es.map (fun e => (e.key, e.val)) = ks.map (fun k => (keyV k, .int .i64 1)) →
    ∃ r, (Instr.findAsking 144 (.agg #[.int .i64 a, .int .i64 b]) es i).run Try.prog w = .ok r w ∧ (if (a, b) ∈ ks then ∃ j, r = some (j, .int .i64 1) else r = none)
  | [], ks, i, h => by
    have : ks = [] := by cases ks <;> simp_all
    subst this
    exact ⟨none, rfl, by simp⟩
  | e :: es, [], i, h => by simp at h
  | e :: es, k :: ks, i, h => by
    simp only [List.map_cons, List.cons.injEq, Prod.mk.injEq] at h
    obtain ⟨⟨h1, h2⟩, h3⟩ := h
    have hq := keyEq a b k.1 k.2 w
    unfold Instr.findAsking
    simp only [Sem.run_bind, h1, keyV, Op.equal, Op.maxDepth, hq, Result.andThen_ok]
    by_cases hk : a = k.1 ∧ b = k.2
    · have he : (a == k.1 && b == k.2) = true := by simp [hk]
      rw [he]
      exact ⟨_, rfl, by
        have hin : (a, b) ∈ k :: ks := by rw [show (a, b) = k from Prod.ext hk.1 hk.2]; simp
        rw [if_pos hin]
        exact ⟨i, by rw [h2]⟩⟩
    · have he : (a == k.1 && b == k.2) = false := by
        cases h' : (a == k.1 && b == k.2)
        · rfl
        · simp at h'; exact absurd h' hk
      rw [he]
      obtain ⟨r, hr, hr2⟩ := run_findAsking a b es ks (i + 1) h3
      refine ⟨r, hr, ?_⟩
      have hiff : (a, b) ∈ k :: ks ↔ (a, b) ∈ ks := by
        rw [List.mem_cons]
        exact ⟨fun h => h.resolve_left (fun e => hk ⟨congrArg Prod.fst e, congrArg Prod.snd e⟩), .inr⟩
      simp only [hiff]
      exact hr2

theorem run_findKey (a b : Int) (es : List MapEntry) (ks : List (Int × Int)) (h : es.map (fun e => (e.key, e.val)) = ks.map (fun k => (keyV k, .int .i64 1))) :
    ∃ r, (Instr.findKey 144 (.agg #[.int .i64 a, .int .i64 b]) es).run Try.prog w = .ok r w ∧ (if (a, b) ∈ ks then ∃ j, r = some (j, .int .i64 1) else r = none) := by
  have hu : Try.prog.underlying 144 = some (.array 2 3) := by kernel_rfl
  unfold Instr.findKey
  simp only [Sem.run_bind, run_underlying hu, Result.andThen_ok]
  rcases es with _ | ⟨e, es⟩
  · have : ks = [] := by cases ks <;> simp_all
    subst this
    exact ⟨none, rfl, by simp⟩
  · have hn : Instr.findNow (.array 2 3) (.agg #[.int .i64 a, .int .i64 b]) (e :: es) 0 = none := by
      rcases ks with _ | ⟨k, ks⟩
      · simp at h
      · simp only [List.map_cons, List.cons.injEq, Prod.mk.injEq] at h
        unfold Instr.findNow
        rw [h.1.1]
        rfl
    rw [hn]
    exact run_findAsking w a b (e :: es) ks 0 h

theorem run_lookup_key {r : Nat} {ks : List (Int × Int)} (h : KeyMap w r ks) (a b : Int) :
    (Instr.lookup 143 (.map (some r)) (.agg #[.int .i64 a, .int .i64 b]) false).run Try.prog w = .ok (.int .i64 (if (a, b) ∈ ks then 1 else 0)) w := by
  obtain ⟨es, c, hb, he⟩ := h
  obtain ⟨r', hr, hr2⟩ := run_findKey w a b es.toList ks he
  have hu := Try.underlying143
  have hz : (zeroValue 3).run Try.prog w = .ok (.int .i64 0) w := by kernel_rfl
  have hg : (getObj r).run Try.prog w = .ok (.map es c) w := by simp [getObj, Sem.run, hb]
  unfold Instr.lookup
  simp only [Sem.run_bind, run_underlying hu, Result.andThen_ok, hg, Sem.run_pure, run_checkKey, hr]
  by_cases hk : (a, b) ∈ ks
  · rw [if_pos hk] at hr2 ⊢
    obtain ⟨j, rfl⟩ := hr2
    simp
  · rw [if_neg hk] at hr2 ⊢
    subst hr2
    simp [Sem.run_bind, hz]

theorem run_store_key {r : Nat} {ks : List (Int × Int)} (h : KeyMap w r ks) (a b : Int) (hn : (a, b) ∉ ks) :
    ∃ w', (Instr.mapUpdate 143 (.map (some r)) (.agg #[.int .i64 a, .int .i64 b]) (.int .i64 1)).run Try.prog w = .ok () w' ∧ KeyMap w' r (ks ++ [(a, b)]) ∧ Chg (fun k => k = r) w w' := by
  have hl := h.lt
  obtain ⟨es, c, hb, he⟩ := h
  obtain ⟨r', hr, hr2⟩ := run_findKey w a b es.toList ks he
  have hu := Try.underlying143
  have hg : (getObj r).run Try.prog w = .ok (.map es c) w := by simp [getObj, Sem.run, hb]
  rw [if_neg hn] at hr2
  subst hr2
  refine ⟨w.putObj r (.map (es.push { key := .agg #[.int .i64 a, .int .i64 b], val := .int .i64 1, born := c }) (c + 1)), ?_, ?_, (Chg.refl (fun k => k = r) w).putObj (r := r) (fun _ => rfl) _⟩
  · unfold Instr.mapUpdate
    simp only [Sem.run_bind, run_underlying hu, Result.andThen_ok, hg, run_checkKey, hr]
    simp [setObj, Sem.run, hb, World.putObj]
  · exact ⟨_, _, World.putObj_heap_same hl, by simp [he, keyV]⟩
end
end Go.Proofs.Ytiljpbncfofnhaa
