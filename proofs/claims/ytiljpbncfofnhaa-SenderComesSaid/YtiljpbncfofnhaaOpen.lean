/- Arguments opened: a slice that comes in reads as a list. -/
import Derived.Test.YtiljpbncfofnhaaWords
import Derived.Deep.Slices
import Derived.Deep.Fields
import Derived.ChangeSame
import Derived.SizedLaws
namespace Go.Proofs.Ytiljpbncfofnhaa
open Go.RowKit Go.ChangeShapes Go.WideShapes Go.Deep
set_option linter.unusedVariables false
set_option linter.unusedSimpArgs false

theorem exists_list {α : Type} {p : Nat → α → Prop} : ∀ n : Nat, (∀ i, i < n → ∃ a, p i a) → ∃ l : List α, l.length = n ∧ ∀ i a, l[i]? = some a → p i a
  | 0, _ => ⟨[], rfl, by simp⟩
  | n + 1, h => by
    obtain ⟨l, hl, hp⟩ := exists_list n (fun i hi => h i (by omega))
    obtain ⟨a, ha⟩ := h n (by omega)
    refine ⟨l ++ [a], by simp [hl], fun i b hb => ?_⟩
    rcases Nat.lt_or_ge i n with hi | hi
    · rw [List.getElem?_append_left (by omega)] at hb; exact hp i b hb
    · rw [List.getElem?_append_right (by omega)] at hb
      have : i - l.length = 0 := by
        rcases Nat.eq_zero_or_pos (i - l.length) with h0 | h0
        · exact h0
        · rw [List.getElem?_eq_none (by simp; omega)] at hb; cases hb
      rw [this] at hb
      simp at hb
      subst hb
      have : i = n := by omega
      subst this
      exact ha

section
variable {H : Type} {ench : TypeId × Value → H} {P : Program} {w : World} {base : Nat} {spare : Nat → Bool} {held : Bool}

/-- every string and slice in it is within the form's reach -/
def Light (P : Program) (t : TypeId) (d : DataW H) : Prop := ∀ n ∈ d.weights P t, n ≤ reachBytes

/-- whatever reads at type t, and is within the reach, is the cells of some a that is ok -/
def OpensAs {α : Type} (ench : TypeId × Value → H) (P : Program) (w : World) (base : Nat) (held : Bool) (t : TypeId) (enc : α → List Value) (ok : α → Prop) : Prop :=
  ∀ (fuel : Nat) (cs : List Value) (x : DataW H × List MemPlace), DataW.trod ench P w base (fun _ => true) held fuel t cs = some x → Light P t x.1 → ∃ a, cs = enc a ∧ ok a

theorem opens_int {t : TypeId} {k : IntKind} (ht : P.underlying t = some (.int k)) : OpensAs ench P w base held t (fun n : Int => [.int k n]) (fun n => (Lit.int k n).wf = true) :=
  fun _ _ _ h _ => by obtain ⟨n, rfl, _, hw⟩ := DataW.trod_int ht h; exact ⟨n, rfl, hw⟩
theorem opens_bool {t : TypeId} (ht : P.underlying t = some .bool) : OpensAs ench P w base held t (fun b : Bool => [.bool b]) (fun _ => True) :=
  fun _ _ _ h _ => by obtain ⟨b, rfl, _⟩ := DataW.trod_bool ht h; exact ⟨b, rfl, trivial⟩
theorem opens_string {t : TypeId} (ht : P.underlying t = some .string) : OpensAs ench P w base held t (fun s : ByteArray => [.string s]) (fun s => s.size ≤ reachBytes) :=
  fun _ _ _ h hw => by
    obtain ⟨s, rfl, rfl, hs⟩ := DataW.trod_string ht h
    exact ⟨s, rfl, by simpa using hw s.data.toList.length (by simp [DataW.weights])⟩

theorem weightsAll_of {e : TypeId} : ∀ {l : List (DataW H)} {d : DataW H}, d ∈ l → ∀ n ∈ d.weights P e, n ∈ DataW.weightsAll P e l
  | x :: l, d, hd, n, hn => by
    simp only [DataW.weightsAll, List.mem_append]
    rcases List.mem_cons.1 hd with rfl | hd
    · exact .inl hn
    · exact .inr (weightsAll_of hd n hn)

/-- the cells of a slice -/
theorem open_sl_cells {α : Type} {enc : α → List Value} {ok : α → Prop} {t e : TypeId} {c fuel : Nat} {cs : List Value} {x : DataW H × List MemPlace}
    (ht : P.underlying t = some (.slice e)) (hc : P.cellsOf e = c) (hpos : 0 < c) (ho : OpensAs ench P w base held e enc ok) (h : DataW.trod ench P w base (fun _ => true) held fuel t cs = some x) (hwt : Light P t x.1) :
    ∃ A l cap, cs = [.slice A l.length cap] ∧ Sl w w.heap.size c enc A l ∧ (∀ a ∈ l, ok a) ∧ l.length ≤ cap ∧ cap ≤ maxLen ∧ cap * P.bytesOf e ≤ reachBytes ∧ (A = none → cap = 0) := by
  rcases open_slice ht h with ⟨rfl, _⟩ | ⟨a, len, cap, m, n, D, Pl, rfl, hb, hl, hm, hmm, rfl, hi⟩
  · exact ⟨none, [], 0, rfl, Sl.nil _ _ _ _ _, by simp, by simp, by simp [maxLen], by simp, fun _ => rfl⟩
  · simp only [if_true] at hmm
    subst hmm
    have hcap : m * P.bytesOf e ≤ reachBytes := by
      refine hwt _ ?_
      simp only [DataW.weights, ht, List.mem_cons, List.length_map, List.length_range]
      left
      congr 1
      omega
    obtain ⟨l, hlen, hp⟩ := exists_list (p := fun i b => (∀ j v, (enc b)[j]? = some v → w.cell? (a.add (i * c + j)) = some v) ∧ (enc b).length = c ∧ ok b) len (fun i hil => by
      obtain ⟨cs', hcs, htr⟩ := hi i (by omega)
      rw [hc] at hcs
      obtain ⟨_, hcl, hat⟩ := World.cells?_some hcs
      obtain ⟨b, rfl, hok⟩ := ho _ _ _ htr (fun n hn => by
        refine hwt n ?_
        simp only [DataW.weights, ht, List.mem_cons, List.mem_append]
        exact .inr (.inl (weightsAll_of (List.mem_map.2 ⟨i, List.mem_range.2 hil, rfl⟩) n hn)))
      refine ⟨b, fun j v hv => ?_, hcl, hok⟩
      have hj : j < c := by rw [← hcl]; exact (List.getElem?_eq_some_iff.1 hv).1
      rw [← Go.Deep.add_add, hat j hj, hv])
    subst hlen
    refine ⟨some a, l, m, rfl, fun hne => ?_, fun b hb => ?_, hl, hm, hcap, by simp⟩
    · rcases l with _ | ⟨b0, r⟩
      · exact absurd rfl hne
      · obtain ⟨h0, hb0, _⟩ := hp 0 b0 rfl
        obtain ⟨v0, hv0⟩ : ∃ v, (enc b0)[0]? = some v := ⟨_, List.getElem?_eq_getElem (by omega)⟩
        have hcell := h0 0 v0 hv0
        have hs := World.cell?_spot hcell
        obtain ⟨b, off, spot⟩ := a
        have hs' : spot = none := by simpa [Addr.add] using hs
        subst hs'
        refine ⟨b, off, rfl, ?_, fun k x hx j v hv => ?_⟩
        · have := World.block_lt_of_cell? w _ hcell
          simpa [Addr.add] using this
        · have := (hp k x hx).1 j v hv
          rw [← this]
          congr 1
          simp only [Addr.add]
          split
          · rename_i h0'; rw [show off + k * c + j = off from by omega]
          · simp [Nat.add_assoc]
    · obtain ⟨i, hb⟩ := List.getElem?_of_mem hb
      exact (hp i b hb).2.2

/-- a slice value that came in -/
theorem open_sl {α : Type} {enc : α → List Value} {ok : α → Prop} {r : Reach} {b0 : Nat} {t e : TypeId} {c : Nat} {v : Value} {d : DataW H} {p : List MemPlace}
    (ht : P.underlying t = some (.slice e)) (hc : P.cellsOf e = c) (hpos : 0 < c) (ho : OpensAs ench P w base held e enc ok) (hv : Value.okWide P w r b0 t v)
    (h : DataW.Trod ench P w base (fun _ => true) held t v d p) (hwt : Light P t d) :
    ∃ A l cap, v = .slice A l.length cap ∧ Sl w w.heap.size c enc A l ∧ (∀ a ∈ l, ok a) ∧ l.length ≤ cap ∧ cap ≤ maxLen ∧ cap * P.bytesOf e ≤ reachBytes ∧ (A = none → cap = 0) := by
  obtain ⟨a0, len, cap, rfl⟩ := okWide_slice ht hv
  obtain ⟨fuel, hf⟩ := h
  obtain ⟨A, l, cap', hcs, h1, h2, h3, h4, h5, h6⟩ := open_sl_cells ht hc hpos ho hf hwt
  simp [Value.cells] at hcs
  obtain ⟨rfl, rfl, rfl⟩ := hcs
  exact ⟨_, l, _, rfl, h1, h2, h3, h4, h5, h6⟩

theorem weightsEach_of : ∀ {ts : List TypeId} {l : List (DataW H)} {j : Nat} {t : TypeId} {d : DataW H}, ts[j]? = some t → l[j]? = some d → ∀ n ∈ d.weights P t, n ∈ DataW.weightsEach P ts l :=
  fun ht hd n hn => DataW.weights_mem_each ht hd n hn

/-- what reads as a struct of one-cell fields -/
theorem struct_cells {t : TypeId} {fs : Array Field} {fuel : Nat} {cs : List Value} {x : DataW H × List MemPlace} (ht : P.underlying t = some (.struct fs)) (hone : Go.Deep.oneCellFields P fs = true)
    (hC : P.cellsOf t = fs.size) (h : DataW.trod ench P w base (fun _ => true) held fuel t cs = some x) (hwt : Light P t x.1) :
    cs.length = fs.size ∧ ∃ n, ∀ (j : Nat) (f : Field), fs[j]? = some f → ∃ v y, cs[j]? = some v ∧ DataW.trod ench P w base (fun _ => true) held n f.type [v] = some y ∧ Light P f.type y.1 := by
  obtain ⟨ys, n, _, hy, hlen, hyl, hf⟩ := DataW.trod_struct ht h
  rw [hC] at hlen
  refine ⟨hlen, n, fun j f hj => ?_⟩
  obtain ⟨ho, hk⟩ := Go.Deep.hone_of hone j f hj
  have hjl : j < fs.size := (Array.getElem?_eq_some_iff.1 hj).1
  have h1 := hf j f hj
  rw [ho, hk, List.drop_eq_getElem_cons (by omega)] at h1
  simp only [List.take_succ_cons, List.take_zero] at h1
  have hys : ys[j]? = some (ys[j]'(by omega)) := List.getElem?_eq_getElem (by omega)
  refine ⟨_, _, List.getElem?_eq_getElem (by omega), h1.trans hys, fun m hm => hwt m ?_⟩
  subst hy
  simp only [DataW.weights, ht]
  exact weightsEach_of (j := j) (t := f.type) (by simp [Array.getElem?_toList, hj]) (by rw [List.getElem?_map, hys]; rfl) m hm
end
end Go.Proofs.Ytiljpbncfofnhaa
