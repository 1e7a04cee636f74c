/- A slice of the call's own that reads as a list; append onto it. -/
import Derived.Test.YtiljpbncfofnhaaWords
import Derived.Maps.AppendAt
import Derived.OwnWalk
import Derived.Laws.OwnMore
import Derived.Deep.Onto
namespace Go.Proofs.Ytiljpbncfofnhaa
open Go.RowKit
set_option linter.unusedVariables false
set_option linter.unusedSimpArgs false

section
variable {α : Type}
theorem flat_length {enc : α → List Value} {c : Nat} (he : ∀ x, (enc x).length = c) (l : List α) : (l.flatMap enc).length = l.length * c := by
  induction l with
  | nil => simp
  | cons x l ih => simp [he, ih, Nat.succ_mul, Nat.add_comm]

theorem flat_at {enc : α → List Value} {c : Nat} (he : ∀ x, (enc x).length = c) : ∀ (l : List α) (k j : Nat) (x : α), l[k]? = some x → j < c → (l.flatMap enc)[k * c + j]? = (enc x)[j]?
  | y :: l, 0, j, x, hx, hj => by
    simp at hx; subst hx
    rw [List.flatMap_cons, List.getElem?_append_left (by rw [he]; omega)]; simp
  | y :: l, k + 1, j, x, hx, hj => by
    rw [List.flatMap_cons, List.getElem?_append_right (by rw [he, Nat.succ_mul]; omega), he, show (k + 1) * c + j - c = k * c + j from by rw [Nat.succ_mul]; omega]
    exact flat_at he l k j x (by simpa using hx) hj

theorem flat_inv {enc : α → List Value} {c : Nat} (he : ∀ x, (enc x).length = c) (hc : 0 < c) (l : List α) (i : Nat) (u : Value) (h : (l.flatMap enc)[i]? = some u) :
    ∃ k x j, l[k]? = some x ∧ j < c ∧ i = k * c + j ∧ (enc x)[j]? = some u := by
  have hi : i < l.length * c := by
    have := (List.getElem?_eq_some_iff.1 h).1
    rwa [flat_length he] at this
  have hk : i / c < l.length := (Nat.div_lt_iff_lt_mul hc).2 hi
  have hx : l[i / c]? = some l[i / c] := List.getElem?_eq_getElem hk
  have hj : i % c < c := Nat.mod_lt _ hc
  have e : i = i / c * c + i % c := by rw [Nat.mul_comm]; exact (Nat.div_add_mod i c).symm
  refine ⟨i / c, _, i % c, hx, hj, e, ?_⟩
  rw [← flat_at he l _ _ _ hx hj, ← e, h]

/-- The slice value v is the call's own (in blocks from base on) and reads as l. -/
def Own (w : World) (base : Nat) (e : TypeId) (c : Nat) (enc : α → List Value) (v : Value) (l : List α) : Prop := w.ownsRow base e c v l.length (l.flatMap enc)

variable {w w' : World} {base : Nat} {e : TypeId} {c : Nat} {enc : α → List Value} {v : Value} {l : List α}
theorem Own.nil_ (w : World) (base : Nat) (e : TypeId) (c : Nat) (enc : α → List Value) : Own w base e c enc (.slice none 0 0) ([] : List α) := World.ownsRow_nil _ _ _ _
theorem Own.drew (h : Own w base e c enc v l) : Own w.drew base e c enc v l := h
theorem Own.drewN (h : Own w base e c enc v l) (n : Nat) : Own (w.drewN n) base e c enc v l := h
theorem Own.alloc (h : Own w base e c enc v l) (o : Obj) : Own (w.alloc o) base e c enc v l := World.ownsRow.alloc h o
theorem Own.mono {base' : Nat} (h : Own w base e c enc v l) (hb : base' ≤ base) : Own w base' e c enc v l := World.ownsRow.mono h hb
/-- it is a slice value; below the heap's end it reads as l -/
theorem Own.sl (he : ∀ x, (enc x).length = c) (h : Own w base e c enc v l) : ∃ A cap, v = .slice A l.length cap ∧ Sl w w.heap.size c enc A l ∧ l.length ≤ maxLen ∧ (A = none → cap = 0) := by
  rcases h.2 with ⟨hv, hn⟩ | ⟨g, cap, cur, hv, hg, hh, hnc, hm, hcs, hx⟩
  · have : l = [] := List.eq_nil_of_length_eq_zero hn
    subst this
    exact ⟨none, 0, hv, Sl.nil _ _ _ _ _, by simp, fun _ => rfl⟩
  · refine ⟨_, cap, hv, fun hl => ?_, Nat.le_trans hnc hm, by simp⟩
    refine ⟨g, 0, rfl, ?_, ?_⟩
    · have := (World.ownsRow.lt h) g (by rw [hv]; rfl)
      exact this.2
    · intro k x hk j u hu
      have hj : j < c := by rw [← he x]; exact (List.getElem?_eq_some_iff.1 hu).1
      have := World.ownsRow.cells h (g := g) (by rw [hv]; rfl) (k * c + j) u (by rw [flat_at he l k j x hk hj]; exact hu)
      rw [← this]
      congr 1
      simp only [Addr.add, Nat.zero_add]
      split <;> simp_all
/-- kept while below the heap's end the world stays as it was -/
theorem Own.below (h : Own w base e c enc v l) (hb : Below w.heap.size w w') : Own w' base e c enc v l :=
  World.ownsRow.kept (row := none) h ⟨hb.os, hb.tape, hb.output, hb.size, fun k hk _ => hb.block k hk⟩ (by cases h' : v.ownBlock <;> simp)
theorem Own.grown {row : Option Nat} (h : Own w base e c enc v l) (hg : w.grownBy w' row) (hne : v.ownBlock = none ∨ v.ownBlock ≠ row) : Own w' base e c enc v l := World.ownsRow.kept h hg hne
end

section
variable {P : Program} (w : World)
theorem run_append_nilsrc (base : Nat) (t ty e : TypeId) (i : TypeInfo) (size : Nat) (ht : P.underlying t = some (.slice e)) (hi : P.info? e = some i)
    (v : Value) (n : Nat) (xs : List Value) (hown : w.ownsRow base e size v n xs) (c : Nat) : (Builtin.append_ #[t, t] ty #[v, .slice none 0 c]).run P w = .ok v w := by
  rcases hown.2 with ⟨rfl, rfl⟩ | ⟨g, cap, cur, rfl, _, _, hnc, _⟩
  · simp [Builtin.append_, run_underlying ht, sizeOf, typeInfo, hi, Builtin.lenOf, Builtin.firstCells]
  · simp [Builtin.append_, run_underlying ht, sizeOf, typeInfo, hi, Builtin.lenOf, Builtin.firstCells, hnc, storeCells]

/-- append(v, xs...) where v is the call's own and xs reads as m -/
theorem run_append_sl {α : Type} {enc : α → List Value} (base : Nat) (t ty e : TypeId) (i : TypeInfo) (z : Value) (size bytes : Nat) (ht : P.underlying t = some (.slice e)) (hi : P.info? e = some i) (hz : i.zero = some z)
    (hsize : i.size = size) (hby : i.bytes = bytes) (hzs : z.cells.size = size) (hsz : 0 < size) (he : ∀ x, (enc x).length = size) (h1 : ∀ x, ∀ u ∈ enc x, u.oneCell' = true)
    (v : Value) (l : List α) (hown : Own w base e size enc v l) (B : Nat) (A : Option Addr) (m : List α) (c : Nat) (hr : Sl w B size enc A m)
    (h63 : l.length + m.length ≤ maxLen) (hbytes : (l.length + m.length) * bytes ≤ 140737488355328) (hbase : base ≤ w.heap.size) :
    ∃ v' w', (Builtin.append_ #[t, t] ty #[v, .slice A m.length c]).run P w = .ok v' w' ∧ Own w' base e size enc v' (l ++ m) ∧ w.grownBy w' v.ownBlock ∧
      (v'.ownBlock = v.ownBlock ∨ v'.ownBlock = some w.heap.size) := by
  rcases A with _ | ad
  · have hm : m = [] := by
      rcases m with _ | ⟨x, m⟩
      · rfl
      · obtain ⟨b, off, h, _⟩ := hr (by simp)
        cases h
    subst hm
    exact ⟨v, w, run_append_nilsrc w base t ty e i size ht hi v l.length _ hown c, by simpa using hown, World.grownBy.refl w _, .inl rfl⟩
  · have hcells : ∀ j u, (m.flatMap enc)[j]? = some u → w.cell? (ad.add j) = some u := by
      intro j u hu
      obtain ⟨k, x, j', hx, hj, rfl, hu'⟩ := flat_inv he hsz m j u hu
      obtain ⟨b, off, hA, _, hc⟩ := hr.at_ hx
      injection hA with hA
      subst hA
      rw [← hc j' u hu']
      congr 1
      unfold Addr.add
      split
      · simp; try omega
      · simp; try omega
    obtain ⟨v', w', hrun, h2, h3, _, h5⟩ := run_append_own_at (P := P) w base t ty e i z size bytes ht hi hz hsize hby hzs hsz v l.length _ hown ad m.length c (m.flatMap enc) (flat_length he m) hcells
      (fun u hu => by obtain ⟨x, _, hx⟩ := List.mem_flatMap.1 hu; exact h1 x u hx) h63 hbytes hbase
    exact ⟨v', w', hrun, by unfold Own; rw [List.flatMap_append, List.length_append]; exact h2, h3, h5⟩

theorem wp_append_sl {α : Type} {enc : α → List Value} {o : Oper} {a : Act} {K : Act → World → Prop} {Q : Exit → Act → World → Prop} (s x : Operand) (t : TypeId)
    (ho : o.op = .call { callee := .builtin .append, args := #[s, x], argTypes := #[t, t] })
    (base : Nat) (e : TypeId) (i : TypeInfo) (z : Value) (size bytes : Nat) (ht : P.underlying t = some (.slice e)) (hi : P.info? e = some i) (hz : i.zero = some z)
    (hsize : i.size = size) (hby : i.bytes = bytes) (hzs : z.cells.size = size) (hsz : 0 < size) (he : ∀ x, (enc x).length = size) (h1 : ∀ x, ∀ u ∈ enc x, u.oneCell' = true)
    (v : Value) (l : List α) (hs : a.eval s = v) (hown : Own w base e size enc v l) (B : Nat) (A : Option Addr) (m : List α) (n c : Nat) (hx : a.eval x = .slice A n c) (hn : n = m.length) (hr : Sl w B size enc A m)
    (h63 : l.length + m.length ≤ maxLen) (hbytes : (l.length + m.length) * bytes ≤ 140737488355328) (hbase : base ≤ w.heap.size)
    (h : ∀ v' w', Own w' base e size enc v' (l ++ m) → w.grownBy w' v.ownBlock → (v'.ownBlock = v.ownBlock ∨ v'.ownBlock = some w.heap.size) → K (a.put o.dst v') w') : o.wp P a w K Q := by
  subst hn
  obtain ⟨v', w', hrun, h2, h3, h4⟩ := run_append_sl (P := P) w base t o.type e i z size bytes ht hi hz hsize hby hzs hsz he h1 v l hown B A m c hr h63 hbytes hbase
  unfold Oper.wp execOp
  simp only [ho, resolve, invoke, builtin, Sem.run_bind, Sem.run_pure, Result.andThen_ok, List.map_toArray, List.map_cons, List.map_nil, hs, hx, hrun]
  exact h v' w' h2 h3 h4

theorem wpList_append_sl {α : Type} {enc : α → List Value} {ops : Array Oper} {rest : List Oper} {o : Oper} {a : Act} {Q : Exit → Act → World → Prop} (hgd : o.guard = none) (s x : Operand) (t : TypeId)
    (ho : o.op = .call { callee := .builtin .append, args := #[s, x], argTypes := #[t, t] })
    (base : Nat) (e : TypeId) (i : TypeInfo) (z : Value) (size bytes : Nat) (ht : P.underlying t = some (.slice e)) (hi : P.info? e = some i) (hz : i.zero = some z)
    (hsize : i.size = size) (hby : i.bytes = bytes) (hzs : z.cells.size = size) (hsz : 0 < size) (he : ∀ x, (enc x).length = size) (h1 : ∀ x, ∀ u ∈ enc x, u.oneCell' = true)
    (v : Value) (l : List α) (hs : a.eval s = v) (hown : Own w base e size enc v l) (B : Nat) (A : Option Addr) (m : List α) (n c : Nat) (hx : a.eval x = .slice A n c) (hn : n = m.length) (hr : Sl w B size enc A m)
    (h63 : l.length + m.length ≤ maxLen) (hbytes : (l.length + m.length) * bytes ≤ 140737488355328) (hbase : base ≤ w.heap.size)
    (h : ∀ v' w', Own w' base e size enc v' (l ++ m) → w.grownBy w' v.ownBlock → (v'.ownBlock = v.ownBlock ∨ v'.ownBlock = some w.heap.size) → wpList P ops Q rest (a.put o.dst v') w') : wpList P ops Q (o :: rest) a w :=
  wpList_plain hgd fun _ hK => wp_append_sl w s x t ho base e i z size bytes ht hi hz hsize hby hzs hsz he h1 v l hs hown B A m n c hx hn hr h63 hbytes hbase fun v' w' h2 h3 h4 => hK _ _ (h v' w' h2 h3 h4)
end

theorem Fr.cells_len (f : Fr) : f.cells.length = 8 := rfl
theorem Fr.cells_one (f : Fr) : ∀ u ∈ f.cells, u.oneCell' = true := by simp [Fr.cells, Value.oneCell']

/-- The call hands back a slice of its own that reads as l; what was there is as it was. -/
def RetOwn {α : Type} (w : World) (e : TypeId) (c : Nat) (enc : α → List Value) (l : List α) (r : Ending) (w' : World) : Prop :=
  ∃ v, r = .returned v ∧ Own w' w.heap.size e c enc v l ∧ Below w.heap.size w w'
end Go.Proofs.Ytiljpbncfofnhaa
