/- Slices of the call's own, wherever in their blocks they begin: what they read as; append, cutting, storing. -/
import Derived.Test.YtiljpbncfofnhaaHeap
import Derived.ArgAppend
import Derived.RegionTactic
namespace Go.Proofs.Ytiljpbncfofnhaa
open Go.RowKit
set_option linter.unusedVariables false
set_option linter.unusedSimpArgs false

/-- The slice value v reads as l; it lies nowhere, or in a block of element type e that may be written, with room to its capacity. -/
def OwnA {α : Type} (w : World) (e : TypeId) (c : Nat) (enc : α → List Value) (v : Value) (l : List α) : Prop :=
  (v = .slice none 0 0 ∧ l = []) ∨
  ∃ g off cap cur, v = .slice (some ⟨g, off, none⟩) l.length cap ∧ w.heap[g]? = some (.cells cur e (0, 0)) ∧ l.length ≤ cap ∧ cap ≤ maxLen ∧ off + cap * c ≤ cur.size ∧ (cur.toList.drop off).take (l.length * c) = l.flatMap enc

section
variable {α : Type} {w w' : World} {e : TypeId} {c : Nat} {enc : α → List Value} {v : Value} {l : List α} {S : Nat → Prop}
theorem OwnA.nil_ (w : World) (e : TypeId) (c : Nat) (enc : α → List Value) : OwnA w e c enc (.slice none 0 0) ([] : List α) := .inl ⟨rfl, rfl⟩
theorem OwnA.of_own {base : Nat} (h : Own w base e c enc v l) : OwnA w e c enc v l := by
  rcases h.2 with ⟨hv, hn⟩ | ⟨g, cap, cur, hv, _, hh, hnc, hm, hcs, hx⟩
  · exact .inl ⟨hv, List.eq_nil_of_length_eq_zero hn⟩
  · exact .inr ⟨g, 0, cap, cur, hv, hh, hnc, hm, by omega, by simpa using hx⟩
theorem OwnA.form (h : OwnA w e c enc v l) : ∃ A n cap, v = .slice A n cap ∧ Hid (n = l.length) ∧ n ≤ cap ∧ cap ≤ maxLen ∧ (A = none → cap = 0) := by
  rcases h with ⟨rfl, rfl⟩ | ⟨g, off, cap, cur, rfl, _, h1, h2, _⟩
  · exact ⟨none, 0, 0, rfl, rfl, Nat.le_refl _, by simp [maxLen], fun _ => rfl⟩
  · exact ⟨_, _, cap, rfl, rfl, h1, h2, by simp⟩
theorem OwnA.len {A : Option Addr} {n cap : Nat} (h : OwnA w e c enc (.slice A n cap) l) : n = l.length := by
  obtain ⟨A2, n2, c2, hv, hn, _⟩ := h.form
  injection hv with _ hn2 _
  exact hn2.trans hn
theorem OwnA.row (h : OwnA w e c enc v l) {g : Nat} (hg : v.ownBlock = some g) : ∃ off cap cur, v = .slice (some ⟨g, off, none⟩) l.length cap ∧ w.heap[g]? = some (.cells cur e (0, 0)) ∧ l.length ≤ cap ∧ cap ≤ maxLen ∧ off + cap * c ≤ cur.size ∧ (cur.toList.drop off).take (l.length * c) = l.flatMap enc := by
  rcases h with ⟨rfl, _⟩ | ⟨g', off, cap, cur, rfl, hh, h1, h2, h3, h4⟩
  · cases hg
  · have : g' = g := by simpa [Value.ownBlock] using hg
    subst this
    exact ⟨off, cap, cur, rfl, hh, h1, h2, h3, h4⟩
theorem OwnA.lt (h : OwnA w e c enc v l) {g : Nat} (hg : v.ownBlock = some g) : g < w.heap.size := by
  obtain ⟨_, _, _, _, hh, _⟩ := h.row hg
  exact (Array.getElem?_eq_some_iff.1 hh).1
theorem OwnA.chg (h : OwnA w e c enc v l) (hc : Chg S w w') (hn : ∀ g, v.ownBlock = some g → ¬ S g) : OwnA w' e c enc v l := by
  rcases h with hn' | ⟨g, off, cap, cur, rfl, hgg, rest⟩
  · exact .inl hn'
  · exact .inr ⟨g, off, cap, cur, rfl, (hc.block g (Array.getElem?_eq_some_iff.1 hgg).1 (hn g rfl)).trans hgg, rest⟩
theorem OwnA.ext (h : OwnA w e c enc v l) (hb : Below w.heap.size w w') : OwnA w' e c enc v l := h.chg (Chg.of_ext (S := fun _ => False) hb) (fun _ _ h => h)
theorem OwnA.alloc (h : OwnA w e c enc v l) (o : Obj) : OwnA (w.alloc o) e c enc v l := h.ext ((Below.refl _ _).alloc (Nat.le_refl _) _)
theorem OwnA.drewN (h : OwnA w e c enc v l) (n : Nat) : OwnA (w.drewN n) e c enc v l := h
theorem OwnA.drew (h : OwnA w e c enc v l) : OwnA w.drew e c enc v l := h
theorem OwnA.apart {g : Nat} {t : TypeId} {cs : Array Value} (h : OwnA w e c enc v l) (hg : Blk w g t cs) (hne : e ≠ t) : v.ownBlock ≠ some g := by
  intro he
  obtain ⟨_, _, cur, _, hh, _⟩ := h.row he
  exact Blk.apart (t := e) hh hg hne rfl
theorem OwnA.apartA {β : Type} {t : TypeId} {c' : Nat} {enc' : β → List Value} {v' : Value} {l' : List β} (h : OwnA w e c enc v l) (h' : OwnA w t c' enc' v' l') (hne : e ≠ t) {g : Nat} (hg : v.ownBlock = some g) : v'.ownBlock ≠ some g := by
  intro he
  obtain ⟨_, _, cur, _, hh, _⟩ := h'.row he
  exact h.apart (g := g) (t := t) (cs := cur) hh hne hg
/-- where its element k lies -/
theorem OwnA.sl (he : ∀ x, (enc x).length = c) {A : Option Addr} {n cap : Nat} (h : OwnA w e c enc (.slice A n cap) l) : Sl w w.heap.size c enc A l := by
  rcases h with ⟨hv, rfl⟩ | ⟨g, off, cap', cur, hv, hgg, h1, h2, h3, h4⟩
  · exact Sl.nil _ _ _ _ _
  · injection hv with hA _ _
    subst hA
    refine fun _ => ⟨g, off, rfl, (Array.getElem?_eq_some_iff.1 hgg).1, fun k x hx j u hu => ?_⟩
    have hj : j < c := by rw [← he x]; exact (List.getElem?_eq_some_iff.1 hu).1
    have hkl : k < l.length := (List.getElem?_eq_some_iff.1 hx).1
    have hlt : k * c + j < l.length * c := by
      have : (k + 1) * c ≤ l.length * c := Nat.mul_le_mul_right _ hkl
      rw [Nat.succ_mul] at this; omega
    have hf := flat_at he l k j x hx hj
    rw [← h4, List.getElem?_take_of_lt hlt, List.getElem?_drop] at hf
    rw [cell_of_row w g _ cur e (0, 0) hgg, ← Array.getElem?_toList, show off + k * c + j = off + (k * c + j) from by omega, hf, hu]
theorem OwnA.blk {A : Option Addr} {n cap : Nat} (h : OwnA w e c enc (.slice A n cap) l) {g : Nat} (hg : blockOf A = some g) : (Value.slice A n cap).ownBlock = some g := by
  cases A with
  | none => cases hg
  | some a => simpa [blockOf, Value.ownBlock] using hg

/-- the address of what is left behind the first k elements -/
def cutA (A : Option Addr) (cap k c : Nat) : Option Addr := if cap = k then A else A.map (·.add (k * c))
theorem cutA_none (cap k c : Nat) : cutA none cap k c = none := by unfold cutA; split <;> rfl
theorem cutA_block (A : Option Addr) (cap k c n cap' : Nat) : (Value.slice (cutA A cap k c) n cap').ownBlock = (Value.slice A n cap').ownBlock := by
  cases A with
  | none => rw [cutA_none]
  | some a =>
    unfold cutA
    split
    · rfl
    · simp only [Option.map_some, Value.ownBlock, Addr.add]
      split <;> rfl
theorem own_block (A : Option Addr) (n cap n' cap' : Nat) : (Value.slice A n cap).ownBlock = (Value.slice A n' cap').ownBlock := by cases A <;> rfl

theorem OwnA.take {A : Option Addr} {n cap : Nat} (he : ∀ x, (enc x).length = c) (h : OwnA w e c enc (.slice A n cap) l) (k cap' : Nat) (hk : k ≤ l.length) (hk' : k ≤ cap') (hc : cap' ≤ cap) : OwnA w e c enc (.slice A k cap') (l.take k) := by
  rcases h with ⟨hv, rfl⟩ | ⟨g, off, cap2, cur, hv, hgg, h1, h2, h3, h4⟩
  · injection hv with hA hn hc'
    subst hA; subst hn; subst hc'
    have hk0 : k = 0 := by simpa using hk
    subst hk0
    have hc0 : cap' = 0 := by omega
    subst hc0
    exact .inl ⟨rfl, by simp⟩
  · injection hv with hA hn hc'
    subst hA; subst hc'
    have hlen : (l.take k).length = k := by simp; omega
    refine .inr ⟨g, off, cap', cur, by rw [hlen], hgg, by rw [hlen]; exact hk', by omega, ?_, ?_⟩
    · have := Nat.mul_le_mul_right c hc; omega
    · rw [hlen]
      have hkc : k * c ≤ l.length * c := Nat.mul_le_mul_right _ hk
      rw [← Nat.min_eq_left hkc, ← List.take_take, h4]
      have := flat_length he (l.take k)
      rw [hlen] at this
      conv => lhs; rw [← List.take_append_drop k l, List.flatMap_append]
      rw [List.take_left' this]

theorem OwnA.cut {A : Option Addr} {n cap : Nat} (he : ∀ x, (enc x).length = c) (h : OwnA w e c enc (.slice A n cap) l) (k : Nat) (hk : k ≤ l.length) : OwnA w e c enc (.slice (cutA A cap k c) (n - k) (cap - k)) (l.drop k) := by
  rcases h with ⟨hv, rfl⟩ | ⟨g, off, cap2, cur, hv, hgg, h1, h2, h3, h4⟩
  · injection hv with hA hn hc'
    subst hA; subst hn; subst hc'
    have hk0 : k = 0 := by simpa using hk
    subst hk0
    exact .inl ⟨by rw [cutA_none], by simp⟩
  · injection hv with hA hn hc'
    subst hA; subst hc'; subst hn
    unfold cutA
    by_cases hc0 : cap = k
    · rw [if_pos hc0]
      have hkl : k = l.length := by omega
      refine .inr ⟨g, off, cap - k, cur, by rw [List.length_drop], hgg, by rw [List.length_drop]; omega, by omega, ?_, ?_⟩
      · have := Nat.mul_le_mul_right c (Nat.sub_le cap k); omega
      · have hd : l.drop k = [] := List.drop_of_length_le (by omega)
        rw [hd]; simp
    · rw [if_neg hc0]
      refine .inr ⟨g, off + k * c, cap - k, cur, ?_, hgg, by rw [List.length_drop]; omega, by omega, ?_, ?_⟩
      · rw [List.length_drop]
        simp only [Option.map_some, Addr.add]
        split <;> rename_i h0
        · rw [h0]; rfl
        · rfl
      · have : (cap - k) * c + k * c = cap * c := by rw [← Nat.add_mul]; congr 1; omega
        omega
      · have hl : (l.take k).length = k := by simp; omega
        have hfl := flat_length he (l.take k)
        rw [hl] at hfl
        have h5 : (l.flatMap enc).drop (k * c) = (l.drop k).flatMap enc := by
          conv => lhs; rw [← List.take_append_drop k l, List.flatMap_append]
          rw [List.drop_left' hfl]
        rw [List.length_drop, ← List.drop_drop, ← h5, ← h4, List.drop_take, Nat.sub_mul]

/-- one field of one element stored anew -/
theorem flat_set (he : ∀ x, (enc x).length = c) : ∀ (l : List α) (k j : Nat) (x x' : α) (u : Value), l[k]? = some x → j < c → enc x' = (enc x).set j u → (l.flatMap enc).set (k * c + j) u = (l.set k x').flatMap enc
  | y :: l, 0, j, x, x', u, hx, hj, hu => by
    simp at hx; subst hx
    rw [List.flatMap_cons, List.set_append, if_pos (by rw [he]; omega), List.set_cons_zero, List.flatMap_cons, hu]; simp
  | y :: l, k + 1, j, x, x', u, hx, hj, hu => by
    rw [List.flatMap_cons, List.set_append, if_neg (by rw [he, Nat.succ_mul]; omega), he, show (k + 1) * c + j - c = k * c + j from by rw [Nat.succ_mul]; omega,
      flat_set he l k j x x' u (by simpa using hx) hj hu, List.set_cons_succ, List.flatMap_cons]

theorem OwnA.store (he : ∀ x, (enc x).length = c) {g off n cap : Nat} (h : OwnA w e c enc (.slice (some ⟨g, off, none⟩) n cap) l) {k j : Nat} {x x' : α} {u : Value} (hx : l[k]? = some x) (hj : j < c) (hu : enc x' = (enc x).set j u) :
    OwnA (w.setCell ⟨g, off + k * c + j, none⟩ u) e c enc (.slice (some ⟨g, off, none⟩) n cap) (l.set k x') := by
  rcases h with ⟨hv, _⟩ | ⟨g', off', cap2, cur, hv, hgg, h1, h2, h3, h4⟩
  · cases hv
  · injection hv with hA hn hc'
    injection hA with hA
    injection hA with hg ho _
    subst hg; subst ho; subst hn; subst hc'
    refine .inr ⟨g, off, cap, _, by rw [List.length_set], heap_setCell_same w g _ cur e u hgg, by rw [List.length_set]; exact h1, h2, by simpa using h3, ?_⟩
    rw [List.length_set, Array.toList_setIfInBounds, List.drop_set, if_neg (by omega), List.take_set, h4]
    rw [show off + k * c + j - off = k * c + j from by omega]
    exact flat_set he l k j x x' u hx hj hu
end

theorem Sl.cut {α : Type} {w : World} {B c : Nat} {enc : α → List Value} {A : Option Addr} {l : List α} (h : Sl w B c enc A l) (cap k : Nat) (hc : l.length ≤ cap) : Sl w B c enc (cutA A cap k c) (l.drop k) := fun hl => by
  have hkl : k < l.length := by
    rcases Nat.lt_or_ge k l.length with h | h
    · exact h
    · exact absurd (List.drop_of_length_le h) hl
  obtain ⟨b, off, rfl, hb, hcell⟩ := h (by rintro rfl; simp at hkl)
  refine ⟨b, off + k * c, ?_, hb, fun i x hx j v hv => ?_⟩
  · unfold cutA
    rw [if_neg (by omega)]
    simp only [Option.map_some, Addr.add]
    split <;> rename_i h0
    · rw [h0]; rfl
    · rfl
  · have := hcell (k + i) x (by rw [← List.getElem?_drop]; exact hx) j v hv
    rw [← this]
    congr 2
    rw [Nat.add_mul]
    omega
theorem Sl.take {α : Type} {w : World} {B c : Nat} {enc : α → List Value} {A : Option Addr} {l : List α} (h : Sl w B c enc A l) (k : Nat) : Sl w B c enc A (l.take k) := fun hl => by
  obtain ⟨b, off, rfl, hb, hcell⟩ := h (by rintro rfl; simp at hl)
  refine ⟨b, off, rfl, hb, fun i x hx j v hv => hcell i x ?_ j v hv⟩
  rw [List.getElem?_take] at hx
  split at hx
  · exact hx
  · cases hx
theorem Sl.append {α : Type} {w : World} {B c : Nat} {enc : α → List Value} {A : Option Addr} {l m : List α} (h : Sl w B c enc A (l ++ m)) : Sl w B c enc A l := by
  have := h.take l.length
  simpa using this

/-- a slice expression's value: what is left behind the first k -/
theorem run_slice_lo {P : Program} {t e : TypeId} {c : Nat} (ht : P.underlying t = some (.slice e)) (hi : ∃ i, P.info? e = some i) (hc : P.cellsOf e = c) (A : Option Addr) (n cap : Nat) (k : Int) (h0 : 0 ≤ k) (h1 : k ≤ (n : Int)) (W : World) :
    (Instr.slice t (.slice A n cap) (some (.int .i64 k)) none none).run P W = .ok (.slice (cutA A cap k.toNat c) (n - k.toNat) (cap - k.toNat)) W := by
  obtain ⟨i, hi⟩ := hi
  subst hc
  unfold Instr.slice Instr.sliceBounds Instr.sliceBound
  simp only [Sem.run_bind, run_underlying ht, Result.andThen_ok, Sem.run_pure, asIntOf, if_pos (And.intro h0 h1), run_sizeOf _ hi]
  rfl
theorem run_slice_hi {P : Program} {t e : TypeId} {c : Nat} (ht : P.underlying t = some (.slice e)) (hi : ∃ i, P.info? e = some i) (hc : P.cellsOf e = c) (A : Option Addr) (n cap : Nat) (k : Int) (h0 : 0 ≤ k) (h1 : k ≤ (cap : Int)) (W : World) :
    (Instr.slice t (.slice A n cap) none (some (.int .i64 k)) none).run P W = .ok (.slice A k.toNat cap) W := by
  obtain ⟨i, hi⟩ := hi
  subst hc
  unfold Instr.slice Instr.sliceBounds Instr.sliceBound
  simp only [Sem.run_bind, run_underlying ht, Result.andThen_ok, Sem.run_pure, asIntOf, if_pos (And.intro h0 h1), run_sizeOf _ hi]
  congr 2
  rcases A with _ | a
  · simp
  · simp only [Nat.zero_mul, Option.map_some, Addr.add, if_true]
    split <;> simp
theorem run_slice_him {P : Program} {t e : TypeId} {c : Nat} (ht : P.underlying t = some (.slice e)) (hi : ∃ i, P.info? e = some i) (hc : P.cellsOf e = c) (A : Option Addr) (n cap : Nat) (k m : Int) (h0 : 0 ≤ k) (h1 : k ≤ m) (h2 : m ≤ (cap : Int)) (W : World) :
    (Instr.slice t (.slice A n cap) none (some (.int .i64 k)) (some (.int .i64 m))).run P W = .ok (.slice A k.toNat m.toNat) W := by
  obtain ⟨i, hi⟩ := hi
  subst hc
  unfold Instr.slice Instr.sliceBounds Instr.sliceBound
  have hm : (m.toNat : Int) = m := Int.toNat_of_nonneg (by omega)
  simp only [Sem.run_bind, run_underlying ht, Result.andThen_ok, Sem.run_pure, asIntOf, if_pos (And.intro (show 0 ≤ m by omega) h2), hm, if_pos (And.intro h0 h1), run_sizeOf _ hi]
  congr 2
  rcases A with _ | a
  · simp
  · simp only [Nat.zero_mul, Option.map_some, Addr.add, if_true]
    split <;> simp

section
variable {P : Program} {α : Type} {enc : α → List Value} (w : World)
theorem run_append_nilsrcA (t ty e : TypeId) (i : TypeInfo) (size : Nat) (ht : P.underlying t = some (.slice e)) (hi : P.info? e = some i) {v : Value} {l : List α} (hown : OwnA w e size enc v l) (c : Nat) :
    (Builtin.append_ #[t, t] ty #[v, .slice none 0 c]).run P w = .ok v w := by
  rcases hown with ⟨rfl, rfl⟩ | ⟨g, off, cap, cur, rfl, _, hnc, _⟩
  · simp [Builtin.append_, run_underlying ht, sizeOf, typeInfo, hi, Builtin.lenOf, Builtin.firstCells]
  · simp [Builtin.append_, run_underlying ht, sizeOf, typeInfo, hi, Builtin.lenOf, Builtin.firstCells, hnc, storeCells]

/-- append(v, xs...) where v is the call's own and xs reads as m -/
theorem run_append_a (t ty e : TypeId) (i : TypeInfo) (z : Value) (size bytes : Nat) (ht : P.underlying t = some (.slice e)) (hi : P.info? e = some i) (hz : i.zero = some z)
    (hsize : i.size = size) (hby : i.bytes = bytes) (hzs : z.cells.size = size) (hsz : 0 < size) (he : ∀ x, (enc x).length = size) (h1 : ∀ x, ∀ u ∈ enc x, u.oneCell' = true)
    (v : Value) (l : List α) (hown : OwnA w e size enc v l) (B : Nat) (A : Option Addr) (m : List α) (c : Nat) (hr : Sl w B size enc A m)
    (h63 : l.length + m.length ≤ maxLen) (hbytes : (l.length + m.length) * bytes ≤ 140737488355328) :
    ∃ v' w', (Builtin.append_ #[t, t] ty #[v, .slice A m.length c]).run P w = .ok v' w' ∧ OwnA w' e size enc v' (l ++ m) ∧ Chg (fun k => v.ownBlock = some k) w w' ∧
      (v'.ownBlock = v.ownBlock ∨ v'.ownBlock = some w.heap.size) := by
  subst hsize
  subst hby
  have hsmall : l.length + m.length ≤ 9223372036854775807 := by simp only [maxLen] at h63; omega
  rcases A with _ | ad
  · have hm : m = [] := by
      rcases m with _ | ⟨x, m⟩
      · rfl
      · obtain ⟨b, off, h, _⟩ := hr (by simp)
        cases h
    subst hm
    exact ⟨v, w, run_append_nilsrcA w t ty e i i.size ht hi hown c, by simpa using hown, Chg.refl _ _, .inl rfl⟩
  · have hnews : ∀ j u, (m.flatMap enc)[j]? = some u → w.cell? (ad.add j) = some u := by
      intro j u hu
      obtain ⟨k, x, j', hx, hj, rfl, hu'⟩ := flat_inv he hsz m j u hu
      obtain ⟨b, off, hA, _, hc⟩ := hr.at_ hx
      injection hA with hA
      subst hA
      rw [← hc j' u hu']
      congr 1
      unfold Addr.add
      split
      · simp; try omega
      · simp; try omega
    have hl := flat_length he m
    have hlo := flat_length he l
    have h1' : ∀ u ∈ m.flatMap enc, u.oneCell' = true := fun u hu => by obtain ⟨x, _, hx⟩ := List.mem_flatMap.1 hu; exact h1 x u hx
    have hlen : ((l ++ m).flatMap enc).length = (l ++ m).length * i.size := flat_length he _
    have grown : ∀ (old : Nat), old < l.length + m.length → 
        OwnA (w.drew.alloc (.cells ((l.flatMap enc).toArray ++ (m.flatMap enc).toArray ++ Builtin.zeroCells z.cells (grownCap w (l.length + m.length) old e - (l.length + m.length))) e)) e i.size enc
          (.slice (some ⟨w.heap.size, 0, none⟩) (l.length + m.length) (grownCap w (l.length + m.length) old e)) (l ++ m) := by
      intro old ho
      have hge := grownCap_ge w (l.length + m.length) old e
      have hcm : grownCap w (l.length + m.length) old e ≤ maxLen := grownCap_le_maxLen w (l.length + m.length) old e h63
      refine .inr ⟨w.heap.size, 0, _, _, by rw [List.length_append], heap_alloc_new w.drew _, by rw [List.length_append]; exact hge, hcm, ?_, ?_⟩
      · simp only [Array.size_append, List.size_toArray, size_zeroCells, hzs, hlo, hl, ← Nat.add_mul, Nat.zero_add]
        refine Nat.mul_le_mul_right _ ?_
        omega
      · simp only [Array.toList_append, List.append_assoc, List.drop_zero]
        rw [← List.append_assoc, ← List.flatMap_append, ← hlen]
        exact List.take_left
    rcases hown with ⟨rfl, rfl⟩ | ⟨g, off, cap, cur, rfl, hg, hnc, hcm, hcs, htake⟩
    · by_cases hm : m.length = 0
      · have hm0 : m = [] := List.eq_nil_of_length_eq_zero hm
        subst hm0
        refine ⟨.slice none 0 0, w, ?_, OwnA.nil_ _ _ _ _, Chg.refl _ _, .inl rfl⟩
        simp [Builtin.append_, run_underlying ht, sizeOf, typeInfo, hi, Builtin.lenOf, Builtin.firstCells, loadCells, loadCellsFrom]
      · have hr := run_append_nil (P := P) w t ty e i z ht hi hz ad m.length c (m.flatMap enc) hl hnews (by omega) (by omega) (by have hb := hbytes; simp only [List.length_nil, Nat.zero_add] at hb; omega)
        have hgr := grown 0 (by simp only [List.length_nil, Nat.zero_add]; omega)
        simp only [List.length_nil, Nat.zero_add, List.flatMap_nil, List.nil_append, Array.empty_append] at hgr ⊢
        exact ⟨_, _, hr, hgr, ⟨rfl, rfl, rfl, by simp, fun k hk _ => Below.heap_alloc w.drew _ k hk⟩, .inr rfl⟩
    · by_cases hroom : l.length + m.length ≤ cap
      · have hmul : (l.length + m.length) * i.size ≤ cap * i.size := Nat.mul_le_mul_right _ hroom
        rw [Nat.add_mul] at hmul
        have hf := run_firstCells_some (P := P) w i.size m.length ad m.length c (m.flatMap enc) hl hnews
        have hst := run_storeCells_at P g (off + l.length * i.size) e (m.flatMap enc) 0 cur w hg (by rw [hl]; omega) h1'
        simp only [Nat.add_zero] at hst
        refine ⟨.slice (some ⟨g, off, none⟩) (l.length + m.length) cap, w.setRow g (cur.toList.take (off + l.length * i.size) ++ m.flatMap enc ++ cur.toList.drop (off + l.length * i.size + (m.flatMap enc).length)).toArray, ?_, ?_, ?_, .inl rfl⟩
        · simp [Builtin.append_, run_underlying ht, sizeOf, typeInfo, hi, Builtin.lenOf, hroom, hf, Addr.add_lit, hst]
        · refine .inr ⟨g, off, cap, _, by rw [List.length_append], setRow_heap w g cur _ e _ hg, by rw [List.length_append]; exact hroom, hcm, ?_, ?_⟩
          · simp only [List.size_toArray, List.length_append, List.length_take, List.length_drop, Array.length_toList]
            omega
          · have hsz2 : cur.toList.length = cur.size := Array.length_toList
            have htl : (cur.toList.take (off + l.length * i.size)).length = off + l.length * i.size := by rw [List.length_take]; omega
            rw [List.append_assoc, List.drop_append_of_le_length (by rw [htl]; omega), List.drop_take, show off + l.length * i.size - off = l.length * i.size from by omega, htake, ← List.append_assoc, ← List.flatMap_append, ← hlen]
            exact List.take_left
        · exact ⟨rfl, rfl, rfl, by simp [World.setRow], fun k _ hk => setRow_other w g k _ (fun e => hk (by simp [Value.ownBlock, e]))⟩
      · have holds : ∀ j u, (l.flatMap enc)[j]? = some u → w.cell? ((⟨g, off, none⟩ : Addr).add j) = some u := by
          intro j u hu
          have hadd : (⟨g, off, none⟩ : Addr).add j = ⟨g, off + j, none⟩ := by unfold Addr.add; split <;> simp_all
          rw [hadd, cell_of_row w g _ cur e (0, 0) hg, ← Array.getElem?_toList]
          rw [← htake, List.getElem?_take] at hu
          split at hu
          · rwa [List.getElem?_drop] at hu
          · cases hu
        have hr := run_append_grow (P := P) w t ty e i z ht hi hz ⟨g, off, none⟩ l.length cap (l.flatMap enc) hlo holds ad m.length c (m.flatMap enc) hl hnews (by omega) (by omega) (growslice_fits (by omega) hbytes)
        exact ⟨_, _, hr, grown cap (by omega), ⟨rfl, rfl, rfl, by simp, fun k hk _ => Below.heap_alloc w.drew _ k hk⟩, .inr rfl⟩

theorem wp_append_a {o : Oper} {a : Act} {K : Act → World → Prop} {Q : Exit → Act → World → Prop} (s x : Operand) (t : TypeId)
    (ho : o.op = .call { callee := .builtin .append, args := #[s, x], argTypes := #[t, t] })
    (e : TypeId) (i : TypeInfo) (z : Value) (size bytes : Nat) (ht : P.underlying t = some (.slice e)) (hi : P.info? e = some i) (hz : i.zero = some z)
    (hsize : i.size = size) (hby : i.bytes = bytes) (hzs : z.cells.size = size) (hsz : 0 < size) (he : ∀ x, (enc x).length = size) (h1 : ∀ x, ∀ u ∈ enc x, u.oneCell' = true)
    (v : Value) (l : List α) (hs : a.eval s = v) (hown : OwnA w e size enc v l) (B : Nat) (A : Option Addr) (m : List α) (n c : Nat) (hx : a.eval x = .slice A n c) (hn : n = m.length) (hr : Sl w B size enc A m)
    (h63 : l.length + m.length ≤ maxLen) (hbytes : (l.length + m.length) * bytes ≤ 140737488355328)
    (h : ∀ v' w', OwnA w' e size enc v' (l ++ m) → Chg (fun k => v.ownBlock = some k) w w' → (v'.ownBlock = v.ownBlock ∨ v'.ownBlock = some w.heap.size) → K (a.put o.dst v') w') : o.wp P a w K Q := by
  subst hn
  obtain ⟨v', w', hrun, h2, h3, h4⟩ := run_append_a (P := P) w t o.type e i z size bytes ht hi hz hsize hby hzs hsz he h1 v l hown B A m c hr h63 hbytes
  unfold Oper.wp execOp
  simp only [ho, resolve, invoke, builtin, Sem.run_bind, Sem.run_pure, Result.andThen_ok, List.map_toArray, List.map_cons, List.map_nil, hs, hx, hrun]
  exact h v' w' h2 h3 h4

theorem wpList_append_a {ops : Array Oper} {rest : List Oper} {o : Oper} {a : Act} {Q : Exit → Act → World → Prop} (hgd : o.guard = none) (s x : Operand) (t : TypeId)
    (ho : o.op = .call { callee := .builtin .append, args := #[s, x], argTypes := #[t, t] })
    (e : TypeId) (i : TypeInfo) (z : Value) (size bytes : Nat) (ht : P.underlying t = some (.slice e)) (hi : P.info? e = some i) (hz : i.zero = some z)
    (hsize : i.size = size) (hby : i.bytes = bytes) (hzs : z.cells.size = size) (hsz : 0 < size) (he : ∀ x, (enc x).length = size) (h1 : ∀ x, ∀ u ∈ enc x, u.oneCell' = true)
    (v : Value) (l : List α) (hs : a.eval s = v) (hown : OwnA w e size enc v l) (B : Nat) (A : Option Addr) (m : List α) (n c : Nat) (hx : a.eval x = .slice A n c) (hn : n = m.length) (hr : Sl w B size enc A m)
    (h63 : l.length + m.length ≤ maxLen) (hbytes : (l.length + m.length) * bytes ≤ 140737488355328)
    (h : ∀ v' w', OwnA w' e size enc v' (l ++ m) → Chg (fun k => v.ownBlock = some k) w w' → (v'.ownBlock = v.ownBlock ∨ v'.ownBlock = some w.heap.size) → wpList P ops Q rest (a.put o.dst v') w') : wpList P ops Q (o :: rest) a w :=
  wpList_plain hgd fun _ hK => wp_append_a w s x t ho e i z size bytes ht hi hz hsize hby hzs hsz he h1 v l hs hown B A m n c hx hn hr h63 hbytes fun v' w' h2 h3 h4 => hK _ _ (h v' w' h2 h3 h4)
end

theorem Sl.chgN {α : Type} {w w' : World} {S : Nat → Prop} {c : Nat} {enc : α → List Value} {A : Option Addr} {l : List α} (h : Sl w w.heap.size c enc A l) (hc : Chg S w w') (hn : l ≠ [] → ∀ g, blockOf A = some g → ¬ S g) : Sl w' w'.heap.size c enc A l :=
  fun hl => Sl.chg h hc (hn hl) hl
theorem Sl.blk_lt {α : Type} {w : World} {B c : Nat} {enc : α → List Value} {A : Option Addr} {l : List α} (h : Sl w B c enc A l) (hl : l ≠ []) : ∀ k, blockOf A = some k → k < B := fun k hk => by
  obtain ⟨b, off, rfl, hb, _⟩ := h hl
  simp [blockOf] at hk
  omega

theorem step_append_a {P : Program} {α : Type} {enc : α → List Value} (w : World) {ops : Array Oper} {o : Oper} {a : Act} {K : Act → World → Prop} {Q : Exit → Act → World → Prop} {E : Prop} (hgd : o.guard = none) (s x : Operand) (t : TypeId)
    (ho : o.op = .call { callee := .builtin .append, args := #[s, x], argTypes := #[t, t] })
    (e : TypeId) (i : TypeInfo) (z : Value) (size bytes : Nat) (ht : P.underlying t = some (.slice e)) (hi : P.info? e = some i) (hz : i.zero = some z)
    (hsize : i.size = size) (hby : i.bytes = bytes) (hzs : z.cells.size = size) (hsz : 0 < size) (he : ∀ x, (enc x).length = size) (h1 : ∀ x, ∀ u ∈ enc x, u.oneCell' = true)
    (v : Value) (l : List α) (hs : a.eval s = v) (hown : OwnA w e size enc v l) (B : Nat) (A : Option Addr) (m : List α) (n c : Nat) (hx : a.eval x = .slice A n c) (hn : n = m.length) (hr : Sl w B size enc A m)
    (h63 : l.length + m.length ≤ maxLen) (hbytes : (l.length + m.length) * bytes ≤ 140737488355328)
    (h : ∀ v' w', OwnA w' e size enc v' (l ++ m) → Chg (fun k => v.ownBlock = some k) w w' → (v'.ownBlock = v.ownBlock ∨ v'.ownBlock = some w.heap.size) → K (a.put o.dst v') w') :
    if Region.wanted o (yielded ops a.tmps) = true then Oper.wp P o a w K Q else E := by
  have hw : Region.wanted o (yielded ops a.tmps) = true := by simp [Region.wanted, hgd]
  rw [if_pos hw]
  exact wp_append_a w s x t ho e i z size bytes ht hi hz hsize hby hzs hsz he h1 v l hs hown B A m n c hx hn hr h63 hbytes h

/-- a call that leaves the world alone, inside a region that only reads -/
theorem quiet_left {P : Program} {f : FuncId} {args : Array Value} {w : World} {n : Nat} {v : Value} (h : Calls P f args (w.drewN n) fun e w' => e = .returned v ∧ w.drewN n = w') : Calls P f args (w.drewN n) fun e w'' => e = .returned v ∧ ∃ m, w'' = w.drewN m :=
  h.mono fun _ _ ⟨he, hm⟩ => ⟨he, n, hm.symm⟩
end Go.Proofs.Ytiljpbncfofnhaa
