/- Trees of fragments, plainly: what the program's walk over the open ones gives is what the document says. -/
import Derived.Test.YtiljpbncfofnhaaMay
import Derived.Test.YtiljpbncfofnhaaFragB
namespace Go.Proofs.Ytiljpbncfofnhaa.Tree
open MayA FragA FragB
set_option linter.unusedVariables false
set_option linter.unusedSimpArgs false

/-- what the document asks of fragment i -/
def okAt (l : List Fr) (i : Nat) : Bool :=
  match l[i]? with
  | none => false
  | some f => mayB f && !decide (findFrom f.node f.part l 0 < i) &&
      (if i = 0 then decide (f.depth = 0) else match l[i - 1]? with | none => false | some g => rng 1 (g.depth + 1) f.depth)
def allOk (l : List Fr) : Bool := (List.range l.length).all (okAt l)
/-- the error number -/
def chk (l : List Fr) : Int := if 2048 < l.length then 4 else if l.length = 0 then 200 else if allOk l then 0 else 200

/-- where the last fragment ahead of i stands whose depth is d -/
def lastBefore (l : List Fr) (d : Int) : Nat → Int
  | 0 => -1
  | k + 1 => match l[k]? with | none => -1 | some f => if f.depth = d then k else lastBefore l d k
def parentOf (l : List Fr) (i : Int) : Int :=
  if i < 0 ∨ l.length ≤ i ∨ chk l ≠ 0 then -1 else match l[i.toNat]? with | none => -1 | some f => lastBefore l (f.depth - 1) i.toNat
/-- where what is below depth d ends, from k on -/
def endFrom (l : List Fr) (d : Int) : Nat → Nat → Nat
  | 0, k => k
  | n + 1, k => match l[k]? with | none => k | some f => if d < f.depth then endFrom l d n (k + 1) else k
def endOf (l : List Fr) (i : Int) : Int :=
  if i < 0 ∨ l.length ≤ i ∨ chk l ≠ 0 then 0 else match l[i.toNat]? with | none => 0 | some f => endFrom l f.depth (l.length - (i.toNat + 1)) (i.toNat + 1)

/-- what hang goes over: the numbers, each with its parent -/
def hangL : List Fr → Nat → List (Int × Int) → List Int → List (Int × Int)
  | [], _, _, _ => []
  | f :: r, i, seen, op =>
    if mayB f = false ∨ (f.node, f.part) ∈ seen ∨ (op.length : Int) < f.depth ∨ decide (f.depth = 0) ≠ decide (i = 0) then []
    else ((i : Int), if 0 < f.depth then (op[(f.depth - 1).toNat]?).getD 0 else -1) :: hangL r (i + 1) (seen ++ [(f.node, f.part)]) (op.take f.depth.toNat ++ [(i : Int)])

theorem findFrom_lt (n p : Int) : ∀ (l : List Fr) (k i : Nat), findFrom n p l k < (k + i : Nat) ↔ (findFrom n p l k = -1 ∨ ∃ j f, j < i ∧ l[j]? = some f ∧ f.node = n ∧ f.part = p)
  | [], k, i => by simp [findFrom]; omega
  | f :: l, k, i => by
    unfold findFrom
    by_cases h : (f.node == n && f.part == p) = true
    · rw [if_pos h]
      simp at h
      constructor
      · intro hk
        exact .inr ⟨0, f, by omega, rfl, h.1, h.2⟩
      · rintro (h' | ⟨j, g, hj, _⟩) <;> omega
    · rw [if_neg h]
      rcases i with _ | i
      · have hf := findFrom_ge n p l (k + 1)
        constructor
        · intro hk
          left
          omega
        · rintro (h' | ⟨j, g, hj, _⟩) <;> omega
      · rw [show k + (i + 1) = (k + 1) + i from by omega, findFrom_lt n p l (k + 1) i]
        constructor
        · rintro (h' | ⟨j, g, hj, hg, h1, h2⟩)
          · exact .inl h'
          · exact .inr ⟨j + 1, g, by omega, by simpa using hg, h1, h2⟩
        · rintro (h' | ⟨j, g, hj, hg, h1, h2⟩)
          · exact .inl h'
          · rcases j with _ | j
            · simp at hg; subst hg; simp [h1, h2] at h
            · exact .inr ⟨j, g, by omega, by simpa using hg, h1, h2⟩
where
  findFrom_ge (n p : Int) : ∀ (l : List Fr) (k : Nat), findFrom n p l k = -1 ∨ (k : Int) ≤ findFrom n p l k
    | [], k => .inl rfl
    | f :: l, k => by
      unfold findFrom
      split
      · right; omega
      · rcases findFrom_ge n p l (k + 1) with h | h
        · exact .inl h
        · right; omega

theorem findFrom_none (n p : Int) : ∀ (l : List Fr) (k : Nat), findFrom n p l k = -1 → ∀ f ∈ l, ¬ (f.node = n ∧ f.part = p)
  | [], k, _, f, hf => by cases hf
  | g :: l, k, h, f, hf => by
    unfold findFrom at h
    split at h
    · omega
    · rename_i hg
      rcases List.mem_cons.1 hf with rfl | hf
      · rintro ⟨h1, h2⟩; simp [h1, h2] at hg
      · exact findFrom_none n p l (k + 1) h f hf

/-- of fragment i: its key stands ahead of it -/
theorem find_ahead {l : List Fr} {i : Nat} {f : Fr} (hf : l[i]? = some f) : findFrom f.node f.part l 0 < i ↔ (f.node, f.part) ∈ (l.take i).map (fun g => (g.node, g.part)) := by
  have h := findFrom_lt f.node f.part l 0 i
  rw [Nat.zero_add] at h
  rw [h]
  constructor
  · rintro (h' | ⟨j, g, hj, hg, h1, h2⟩)
    · exact absurd ⟨rfl, rfl⟩ (findFrom_none _ _ l 0 h' f (List.mem_of_getElem? hf))
    · exact List.mem_map.2 ⟨g, List.mem_of_getElem? (i := j) (by rw [List.getElem?_take_of_lt hj]; exact hg), by rw [h1, h2]⟩
  · intro hm
    obtain ⟨g, hg, he⟩ := List.mem_map.1 hm
    obtain ⟨j, hj⟩ := List.getElem?_of_mem hg
    have hlt : j < i := by
      have := (List.getElem?_eq_some_iff.1 hj).1
      simp at this; omega
    rw [List.getElem?_take_of_lt hlt] at hj
    simp only [Prod.mk.injEq] at he
    exact .inr ⟨j, g, hlt, hj, he.1, he.2⟩

def par (l : List Fr) (i : Nat) : Int := match l[i]? with | none => -1 | some f => if 0 < f.depth then lastBefore l (f.depth - 1) i else -1
/-- the fragments from i on, n at most, as long as they are right -/
def goodFrom (l : List Fr) : Nat → Nat → List (Int × Int)
  | _, 0 => []
  | i, n + 1 => if okAt l i then ((i : Int), par l i) :: goodFrom l (i + 1) n else []

/-- what the open ones are ahead of i -/
structure OpenAt (l : List Fr) (i : Nat) (op : List Int) : Prop where
  len : (op.length : Int) = match i with | 0 => 0 | k + 1 => match l[k]? with | none => 0 | some g => g.depth + 1
  at_ : ∀ d : Nat, d < op.length → op[d]? = some (lastBefore l d i)

theorem may_depth {f : Fr} (h : mayB f = true) : 0 ≤ f.depth ∧ f.depth ≤ 2048 := by
  simp only [mayB, rng, out, Bool.and_eq_true, Bool.not_eq_true', Bool.or_eq_false_iff, decide_eq_false_iff_not] at h
  omega

theorem rng_iff (a b c : Int) : rng a b c = true ↔ a ≤ c ∧ c ≤ b := by
  simp [rng, out]

theorem hang_good (l : List Fr) : ∀ (n i : Nat) (op : List Int), n = l.length - i → i ≤ l.length → OpenAt l i op →
    hangL (l.drop i) i ((l.take i).map fun g => (g.node, g.part)) op = goodFrom l i n
  | 0, i, op, hn, hi, _ => by
    rw [List.drop_of_length_le (by omega)]; rfl
  | n + 1, i, op, hn, hi, ho => by
    have hlt : i < l.length := by omega
    have hf : l[i]? = some l[i] := List.getElem?_eq_getElem hlt
    rw [List.drop_eq_getElem_cons hlt]
    have hta : (l.take (i + 1)).map (fun g => (g.node, g.part)) = (l.take i).map (fun g => (g.node, g.part)) ++ [(l[i].node, l[i].part)] := by
      rw [List.take_succ_eq_append_getElem hlt, List.map_append]; rfl
    generalize l[i] = f at *
    unfold hangL goodFrom
    have hok : okAt l i = true ↔ ¬ (mayB f = false ∨ (f.node, f.part) ∈ (l.take i).map (fun g => (g.node, g.part)) ∨ (op.length : Int) < f.depth ∨ decide (f.depth = 0) ≠ decide (i = 0)) := by
      unfold okAt
      rw [hf]
      simp only [Bool.and_eq_true, Bool.not_eq_true', decide_eq_false_iff_not, find_ahead hf]
      rcases i with _ | k
      · have hl := ho.len
        simp only at hl
        simp only [if_true, decide_eq_true_eq]
        constructor
        · rintro ⟨⟨h1, h2⟩, h3⟩ (h | h | h | h)
          · simp [h1] at h
          · exact h2 h
          · omega
          · simp [h3] at h
        · intro h
          refine ⟨⟨by cases hm : mayB f <;> simp_all, fun h2 => h (.inr (.inl h2))⟩, ?_⟩
          by_cases h3 : f.depth = 0
          · exact h3
          · exact absurd (.inr (.inr (.inr (by simp [h3])))) h
      · have hg : l[k]? = some l[k] := List.getElem?_eq_getElem (by omega)
        have hl := ho.len
        simp only [hg] at hl
        simp only [Nat.add_sub_cancel, hg, if_neg (Nat.succ_ne_zero k), rng_iff]
        constructor
        · rintro ⟨⟨h1, h2⟩, h3⟩ (h | h | h | h)
          · simp [h1] at h
          · exact h2 h
          · omega
          · have : f.depth ≠ 0 := by omega
            simp [this] at h
        · intro h
          have hm : mayB f = true := by cases hm : mayB f <;> simp_all
          have hd := may_depth hm
          refine ⟨⟨hm, fun h2 => h (.inr (.inl h2))⟩, ?_, ?_⟩
          · by_cases h3 : f.depth = 0
            · exact absurd (.inr (.inr (.inr (by simp [h3])))) h
            · omega
          · by_cases h3 : (op.length : Int) < f.depth
            · exact absurd (.inr (.inr (.inl h3))) h
            · omega
    by_cases hc : okAt l i = true
    · rw [if_pos hc, if_neg (hok.1 hc)]
      have hn' := hok.1 hc
      have hm : mayB f = true := by cases hm : mayB f <;> simp_all
      have hd := may_depth hm
      have hle : ¬ (op.length : Int) < f.depth := fun h => hn' (.inr (.inr (.inl h)))
      congr 1
      · unfold par
        rw [hf]
        by_cases h0 : 0 < f.depth
        · simp only [if_pos h0]
          have := ho.at_ (f.depth - 1).toNat (by omega)
          rw [this]
          simp only [Option.getD_some]
          rw [show (((f.depth - 1).toNat : Nat) : Int) = f.depth - 1 from by omega]
        · simp only [if_neg h0]
      · rw [← hta]
        refine hang_good l n (i + 1) _ (by omega) (by omega) ⟨?_, ?_⟩
        · simp only [hf, List.length_append, List.length_take, List.length_cons, List.length_nil]
          omega
        · intro d hdl
          simp only [List.length_append, List.length_take, List.length_cons, List.length_nil] at hdl
          by_cases hlt' : d < f.depth.toNat
          · rw [List.getElem?_append_left (by simp; omega), List.getElem?_take_of_lt hlt', ho.at_ d (by omega)]
            unfold lastBefore
            rw [hf]
            simp only
            rw [if_neg (by omega)]
            cases i <;> rfl
          · have hde : d = f.depth.toNat := by omega
            subst hde
            rw [List.getElem?_append_right (by simp; omega)]
            have e0 : f.depth.toNat - (List.take f.depth.toNat op).length = 0 := by simp; omega
            rw [e0]
            simp only [List.getElem?_cons_zero, Option.some.injEq]
            unfold lastBefore
            rw [hf]
            simp only
            rw [if_pos (by omega)]
    · rw [if_pos (by
        by_cases h : (mayB f = false ∨ (f.node, f.part) ∈ (l.take i).map (fun g => (g.node, g.part)) ∨ (op.length : Int) < f.depth ∨ decide (f.depth = 0) ≠ decide (i = 0))
        · exact h
        · exact absurd (hok.2 h) hc), if_neg hc]

/-- what hang goes over, plainly -/
def hangs (l : List Fr) : List (Int × Int) := hangL l 0 [] []
theorem hangs_eq (l : List Fr) : hangs l = goodFrom l 0 l.length := by
  have := hang_good l l.length 0 [] (by omega) (by omega) ⟨rfl, fun d hd => by simp at hd⟩
  simpa [hangs] using this

theorem good_len (l : List Fr) : ∀ n i : Nat, (goodFrom l i n).length ≤ n ∧ ((goodFrom l i n).length = n ↔ ∀ k, k < n → okAt l (i + k) = true)
  | 0, i => by simp [goodFrom]
  | n + 1, i => by
    unfold goodFrom
    have ih := good_len l n (i + 1)
    by_cases h : okAt l i = true
    · rw [if_pos h]
      simp only [List.length_cons]
      refine ⟨by omega, ?_⟩
      rw [Nat.add_right_cancel_iff, ih.2]
      constructor
      · intro hk k hkl
        rcases k with _ | k
        · simpa using h
        · have := hk k (by omega); rwa [show i + (k + 1) = i + 1 + k from by omega]
      · intro hk k hkl
        have := hk (k + 1) (by omega); rwa [show i + (k + 1) = i + 1 + k from by omega] at this
    · rw [if_neg h]
      refine ⟨by simp, ?_⟩
      simp only [List.length_nil]
      constructor
      · intro h0; omega
      · intro hk; exact absurd (by simpa using hk 0 (by omega)) h

theorem allOk_iff (l : List Fr) : allOk l = true ↔ ∀ k, k < l.length → okAt l k = true := by simp [allOk]
theorem hangs_len (l : List Fr) : (hangs l).length ≤ l.length ∧ ((hangs l).length = l.length ↔ allOk l = true) := by
  rw [hangs_eq, allOk_iff]
  have := good_len l l.length 0
  simpa using this

/-- the error number, by how many hang goes over -/
theorem chk_eq (l : List Fr) : chk l = if 2048 < l.length then 4 else if (hangs l).length = 0 ∨ (hangs l).length < l.length then 200 else 0 := by
  have h := hangs_len l
  unfold chk
  split
  · rfl
  · by_cases h0 : l.length = 0
    · rw [if_pos h0, if_pos (.inl (by omega))]
    · rw [if_neg h0]
      by_cases ha : allOk l = true
      · have := h.2.2 ha
        rw [if_pos ha, if_neg (by omega)]
      · have : (hangs l).length ≠ l.length := fun e => ha (h.2.1 e)
        rw [if_neg (by simpa using ha), if_pos (.inr (by omega))]

theorem good_at (l : List Fr) : ∀ n i k : Nat, k < (goodFrom l i n).length → (goodFrom l i n)[k]? = some (((i + k : Nat) : Int), par l (i + k))
  | 0, i, k, h => by simp [goodFrom] at h
  | n + 1, i, k, h => by
    unfold goodFrom at h ⊢
    by_cases hc : okAt l i = true
    · rw [if_pos hc] at h ⊢
      rcases k with _ | k
      · simp
      · simp only [List.length_cons] at h
        rw [List.getElem?_cons_succ, good_at l n (i + 1) k (by omega)]
        simp only [Option.some.injEq, Prod.mk.injEq]
        rw [show i + (k + 1) = i + 1 + k from by omega]
        simp
    · rw [if_neg hc] at h; simp at h
theorem hangs_at (l : List Fr) (k : Nat) (h : k < (hangs l).length) : (hangs l)[k]? = some ((k : Int), par l k) := by
  rw [hangs_eq] at h ⊢
  simpa using good_at l l.length 0 k h
end Go.Proofs.Ytiljpbncfofnhaa.Tree
