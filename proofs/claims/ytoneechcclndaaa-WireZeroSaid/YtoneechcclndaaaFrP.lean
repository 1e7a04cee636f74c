/- frag, plainly: a tree's form: what is printed, what is parsed. -/
import Derived.Test.YtoneechcclndaaaTornP
import Derived.Test.YtoneechcclndaaaTree
namespace Go.Proofs.Ytoneechcclndaaa.FForm
open Go.Proofs.Ytoneechcclndaaa.Word Go.Proofs.Ytoneechcclndaaa.Wire MayA FragA FragB Tree lawTorn
set_option linter.unusedVariables false
set_option linter.unusedSimpArgs false

def natV (i : Int) : WV := { wv0 with n := i.toNat }
def intV (i : Int) : WV := { wv0 with i := i }
def bytV (t : ByteArray) : WV := { wv0 with b := t.data.toList }
/-- a fragment's values -/
def rowV (f : Fr) : List WV := [natV f.node, natV f.part, natV f.depth, intV f.x, intV f.y, intV f.w, intV f.h, bytV f.text]
def frS : List UInt8 := [110, 110, 110, 105, 105, 105, 105, 98]
def frK : List Kd := [.nat, .nat, .nat, .int, .int, .int, .int, .bytes]
theorem frS_ks : schemaP frS = some frK := rfl
def rowB (f : Fr) : List UInt8 := putS frK (rowV f)
/-- a tree's form, however long -/
def outF (l : List Fr) : List UInt8 := putW l.length ++ l.flatMap rowB
def printF (l : List Fr) : List UInt8 × Int := if chk l = 0 then (if 262144 < (outF l).length then ([], 3) else (outF l, 0)) else ([], chk l)
def numV (v : WV) : Int := (min v.n 1099511627777 : Nat)
def ofG (num : WV → Int) (v : List WV) : Fr :=
  ⟨num (v.getD 0 wv0), num (v.getD 1 wv0), num (v.getD 2 wv0), (v.getD 3 wv0).i, (v.getD 4 wv0).i, (v.getD 5 wv0).i, (v.getD 6 wv0).i, ⟨(v.getD 7 wv0).b.toArray⟩⟩
def ofV (v : List WV) : Fr := ofG numV v
/-- the values of so many rows, and how many bytes these have -/
def rowsV (b : List UInt8) : Nat → Option (List (List WV) × Nat)
  | 0 => some ([], 0)
  | j + 1 => match rowsV b j with
    | none => none
    | some (vs, t) => match takeS frK (b.drop t) with
      | none => none
      | some (v, u) => some (vs ++ [v], t + u)
def parseG (num : WV → Int) (b : List UInt8) : List Fr × Int :=
  match getW b with
  | none => ([], 200)
  | some (n, k) => if b.length ≤ 262144 ∧ n ≤ 2048 then
      match rowsV (b.drop k) n with
      | none => ([], 200)
      | some (vs, t) => if k + t = b.length ∧ chk (vs.map (ofG num)) = 0 then (vs.map (ofG num), 0) else ([], 200)
    else ([], 200)
def parseF (b : List UInt8) : List Fr × Int := parseG numV b

theorem may_all {f : Fr} (h : mayB f = true) : (0 ≤ f.node ∧ f.node ≤ 1099511627776) ∧ (0 ≤ f.part ∧ f.part ≤ 1099511627776) ∧ (0 ≤ f.depth ∧ f.depth ≤ 2048) ∧ (-1099511627776 ≤ f.x ∧ f.x ≤ 1099511627776) ∧
    (-1099511627776 ≤ f.y ∧ f.y ≤ 1099511627776) ∧ (-1099511627776 ≤ f.w ∧ f.w ≤ 1099511627776) ∧ (-1099511627776 ≤ f.h ∧ f.h ≤ 1099511627776) ∧ f.text.size ≤ 256 := by
  simp only [mayB, Bool.and_eq_true, rng_iff, decide_eq_true_eq] at h
  obtain ⟨⟨⟨⟨⟨⟨⟨h1, h2⟩, h3⟩, h4⟩, h5⟩, h6⟩, h7⟩, h8⟩ := h
  exact ⟨h1, h2, h3, h4, h5, h6, h7, h8⟩
theorem chk_may {l : List Fr} (h : chk l = 0) : l ≠ [] ∧ l.length ≤ 2048 ∧ ∀ f ∈ l, mayB f = true := by
  unfold chk at h
  split at h
  · cases h
  · split at h
    · cases h
    · split at h
      · rename_i h1 h2 h3
        refine ⟨fun h => h2 (by rw [h]; rfl), by omega, fun f hf => ?_⟩
        obtain ⟨k, hk⟩ := List.getElem?_of_mem hf
        have h4 := (allOk_iff l).1 h3 k (List.getElem?_eq_some_iff.1 hk).1
        unfold okAt at h4
        rw [hk] at h4
        simp only [Bool.and_eq_true] at h4
        exact h4.1.1
      · cases h
theorem row_fits (f : Fr) : fitsS frK (rowV f) = true := rfl
theorem text_len (t : ByteArray) : t.data.toList.length = t.size := rfl
theorem row_wf {f : Fr} (h : mayB f = true) : (∀ v ∈ rowV f, v.Wf) ∧ (rowV f).any longV = false := by
  obtain ⟨h1, h2, h3, h4, h5, h6, h7, h8⟩ := may_all h
  have h9 : f.text.data.toList.length ≤ 256 := h8
  constructor
  · intro v hv
    simp only [rowV, List.mem_cons, List.not_mem_nil, or_false] at hv
    rcases hv with rfl | rfl | rfl | rfl | rfl | rfl | rfl | rfl <;> (
      simp only [WV.Wf, natV, intV, bytV, wv0, p64]
      refine ⟨by omega, by omega, by omega, by simp, by first | (simp; done) | omega, by simp⟩)
  · simp [rowV, longV, natV, intV, bytV, wv0]
    have : f.text.data.size = f.text.data.toList.length := by simp
    omega
theorem row_putP {f : Fr} (h : mayB f = true) : putP frS (rowV f) = (rowB f, 0) := by
  unfold putP
  rw [frS_ks]
  simp only
  rw [row_fits, if_pos rfl, (row_wf h).2, if_neg (by simp)]
  rfl
theorem head_putP (n : Nat) : putP [110] [{ wv0 with n := n }] = (putW n, 0) := by
  unfold putP
  rw [show schemaP [110] = some [.nat] from rfl]
  simp [fitsS, fitsK, wv0, longV, putS, putK]
theorem row_take {f : Fr} (h : mayB f = true) (r : List UInt8) : takeS frK (rowB f ++ r) = some (rowV f, (rowB f).length) :=
  takeS_put frK (rowV f) r (row_fits f) (row_wf h).1 (row_wf h).2
theorem of_row {f : Fr} (h : mayB f = true) : ofV (rowV f) = f := by
  obtain ⟨h1, h2, h3, h4, h5, h6, h7, h8⟩ := may_all h
  obtain ⟨a, b, c, d, e, g, i, t⟩ := f
  simp only at h1 h2 h3
  have e1 : ((min a.toNat 1099511627777 : Nat) : Int) = a := by omega
  have e2 : ((min b.toNat 1099511627777 : Nat) : Int) = b := by omega
  have e3 : ((min c.toNat 1099511627777 : Nat) : Int) = c := by omega
  show (⟨((min a.toNat 1099511627777 : Nat) : Int), ((min b.toNat 1099511627777 : Nat) : Int), ((min c.toNat 1099511627777 : Nat) : Int), d, e, g, i, ⟨t.data.toList.toArray⟩⟩ : Fr) = _
  rw [e1, e2, e3]

theorem rows_put : ∀ (l : List Fr) (r : List UInt8) (j : Nat), (∀ f ∈ l, mayB f = true) → j ≤ l.length → rowsV (l.flatMap rowB ++ r) j = some ((l.take j).map rowV, ((l.take j).flatMap rowB).length)
  | l, r, 0, _, _ => by simp [rowsV]
  | l, r, j + 1, h, hj => by
    unfold rowsV
    rw [rows_put l r j h (by omega)]
    simp only
    have hlt : j < l.length := by omega
    have e : l = l.take j ++ (l[j] :: l.drop (j + 1)) := by rw [← List.drop_eq_getElem_cons hlt, List.take_append_drop]
    have e2 : l.flatMap rowB ++ r = (l.take j).flatMap rowB ++ (rowB l[j] ++ ((l.drop (j + 1)).flatMap rowB ++ r)) := by
      conv => lhs; rw [e]
      rw [List.flatMap_append, List.flatMap_cons]; simp
    rw [e2, List.drop_left, row_take (h _ (List.getElem_mem hlt))]
    simp only
    rw [List.take_succ_eq_append_getElem hlt, List.map_append, List.flatMap_append]
    simp
theorem print_zero {l : List Fr} {x : List UInt8} (h : printF l = (x, 0)) : chk l = 0 ∧ x = outF l ∧ x.length ≤ 262144 := by
  unfold printF at h
  split at h
  · split at h
    · cases h
    · simp only [Prod.mk.injEq, and_true] at h
      exact ⟨by assumption, h.symm, by rw [← h]; omega⟩
  · rename_i h1
    simp only [Prod.mk.injEq] at h
    exact absurd h.2 h1
/-- a tree that is printed is parsed as it was -/
theorem parse_print {l : List Fr} {x : List UInt8} (h : printF l = (x, 0)) : parseF x = (l, 0) := by
  obtain ⟨hc, rfl, hx⟩ := print_zero h
  obtain ⟨hne, h2, hm⟩ := chk_may hc
  unfold parseF parseG
  have h1 : getW (outF l) = some (l.length, (putW l.length).length) := get_put (by unfold p64; omega) _
  rw [h1]
  simp only
  rw [if_pos ⟨hx, h2⟩]
  have h3 : (outF l).drop (putW l.length).length = l.flatMap rowB ++ [] := by unfold outF; rw [List.drop_left]; simp
  rw [h3, rows_put l [] l.length hm (Nat.le_refl _)]
  simp only
  have h4 : ((l.take l.length).map rowV).map (ofG numV) = l := by
    rw [List.take_length, List.map_map]
    have : ∀ f ∈ l, (ofG numV ∘ rowV) f = f := fun f hf => of_row (hm f hf)
    rw [List.map_congr_left this, List.map_id']
  rw [h4, if_pos ⟨by rw [List.take_length]; unfold outF; simp, hc⟩]

theorem kd_nat {v : WV} (h : fitsK .nat v = true) : v = { wv0 with n := v.n } := by
  obtain ⟨n, i, f, b, l⟩ := v
  simp only [fitsK, Bool.and_eq_true, beq_iff_eq, Bool.not_eq_true', List.isEmpty_iff] at h
  simp_all [wv0]
theorem kd_int {v : WV} (h : fitsK .int v = true) : v = { wv0 with i := v.i } := by
  obtain ⟨n, i, f, b, l⟩ := v
  simp only [fitsK, Bool.and_eq_true, beq_iff_eq, Bool.not_eq_true', List.isEmpty_iff] at h
  simp_all [wv0]
theorem kd_bytes {v : WV} (h : fitsK .bytes v = true) : v = { wv0 with b := v.b } := by
  obtain ⟨n, i, f, b, l⟩ := v
  simp only [fitsK, Bool.and_eq_true, beq_iff_eq, Bool.not_eq_true', List.isEmpty_iff] at h
  simp_all [wv0]
/-- eight values -/
theorem eight {v : List WV} (hf : fitsS frK v = true) : ∃ a b c d e g i t, v = [a, b, c, d, e, g, i, t] ∧ fitsK .nat a = true ∧ fitsK .nat b = true ∧ fitsK .nat c = true ∧ fitsK .int d = true ∧ fitsK .int e = true ∧ fitsK .int g = true ∧ fitsK .int i = true ∧ fitsK .bytes t = true := by
  have hl : v.length = 8 := (fits_len _ _ hf).symm
  unfold frK at hf
  match v, hl with
  | [a, b, c, d, e, g, i, t], _ =>
    simp only [fitsS, Bool.and_eq_true, and_true] at hf
    obtain ⟨h1, h2, h3, h4, h5, h6, h7, h8⟩ := hf
    exact ⟨a, b, c, d, e, g, i, t, rfl, h1, h2, h3, h4, h5, h6, h7, h8⟩
theorem row_of {v : List WV} (hf : fitsS frK v = true) (hm : mayB (ofV v) = true) : rowV (ofV v) = v := by
  obtain ⟨a, b, c, d, e, g, i, t, rfl, h1, h2, h3, h4, h5, h6, h7, h8⟩ := eight hf
  have hm1 := may_all hm
  simp only [ofV, ofG, numV, List.getD_cons_zero, List.getD_cons_succ] at hm1
  simp only [ofV, ofG, rowV, numV, natV, intV, bytV, List.getD_cons_zero, List.getD_cons_succ]
  have e1 : ((min a.n 1099511627777 : Nat) : Int).toNat = a.n := by omega
  have e2 : ((min b.n 1099511627777 : Nat) : Int).toNat = b.n := by omega
  have e3 : ((min c.n 1099511627777 : Nat) : Int).toNat = c.n := by omega
  rw [e1, e2, e3, ← kd_nat h1, ← kd_nat h2, ← kd_nat h3, ← kd_int h4, ← kd_int h5, ← kd_int h6, ← kd_int h7, ← kd_bytes h8]
theorem flat_congr {α β : Type} {f g : α → List β} : ∀ l : List α, (∀ x ∈ l, f x = g x) → l.flatMap f = l.flatMap g
  | [], _ => rfl
  | x :: l, h => by rw [List.flatMap_cons, List.flatMap_cons, h x (by simp), flat_congr l (fun y hy => h y (by simp [hy]))]
theorem rows_take (b : List UInt8) : ∀ (j : Nat) (vs : List (List WV)) (t : Nat), rowsV b j = some (vs, t) → vs.length = j ∧ vs.flatMap (putS frK) = b.take t ∧ t ≤ b.length ∧ ∀ v ∈ vs, fitsS frK v = true
  | 0, vs, t, h => by
    simp only [rowsV, Option.some.injEq, Prod.mk.injEq] at h
    obtain ⟨rfl, rfl⟩ := h
    simp
  | j + 1, vs, t, h => by
    unfold rowsV at h
    cases hr : rowsV b j with
    | none => rw [hr] at h; cases h
    | some x =>
      obtain ⟨us, s⟩ := x
      rw [hr] at h
      simp only at h
      obtain ⟨h1, h2, h3, h4⟩ := rows_take b j us s hr
      cases ht : takeS frK (b.drop s) with
      | none => rw [ht] at h; cases h
      | some y =>
        obtain ⟨v, u⟩ := y
        rw [ht] at h
        simp only [Option.some.injEq, Prod.mk.injEq] at h
        obtain ⟨rfl, rfl⟩ := h
        obtain ⟨p1, p2, p3, p4, p5⟩ := put_takeS frK _ _ _ ht
        rw [List.length_drop] at p5
        refine ⟨by simp [h1], ?_, by omega, fun x hx => ?_⟩
        · rw [List.flatMap_append, h2, List.flatMap_cons, List.flatMap_nil, List.append_nil, p1, List.take_add]
        · rcases List.mem_append.1 hx with hx | hx
          · exact h4 x hx
          · simp only [List.mem_singleton] at hx; rw [hx]; exact p2
/-- bytes that are parsed are those of what they are -/
theorem print_parse {b : List UInt8} {l : List Fr} (h : parseF b = (l, 0)) : printF l = (b, 0) := by
  unfold parseF parseG at h
  cases hg : getW b with
  | none => rw [hg] at h; cases h
  | some x =>
    obtain ⟨n, k⟩ := x
    rw [hg] at h
    simp only at h
    split at h
    · rename_i hb
      cases hr : rowsV (b.drop k) n with
      | none => rw [hr] at h; cases h
      | some y =>
        obtain ⟨vs, t⟩ := y
        rw [hr] at h
        simp only at h
        split at h
        · rename_i hc
          simp only [Prod.mk.injEq, and_true] at h
          subst h
          obtain ⟨h1, h2, h3, h4⟩ := rows_take _ _ _ _ hr
          have hp := put_takeS [.nat] b [{ wv0 with n := n }] k (by simp [takeS, takeK, hg])
          have hp1 : putW n = b.take k := by simpa [putS, putK] using hp.1
          have hm := (chk_may hc.2).2.2
          have he : outF (vs.map (ofG numV)) = b := by
            unfold outF
            rw [List.length_map, h1, hp1, List.flatMap_map]
            have : ∀ v ∈ vs, rowB (ofG numV v) = putS frK v := fun v hv => by
              unfold rowB
              rw [show rowV (ofG numV v) = v from row_of (h4 v hv) (hm _ (List.mem_map.2 ⟨v, hv, rfl⟩))]
            rw [flat_congr _ this, h2]
            rw [List.length_drop] at h3
            rw [show (b.drop k).take t = b.drop k from List.take_of_length_le (by rw [List.length_drop]; omega), List.take_append_drop]
          unfold printF
          rw [if_pos hc.2, he, if_neg (by omega)]
        · cases h
    · cases h
end Go.Proofs.Ytoneechcclndaaa.FForm
