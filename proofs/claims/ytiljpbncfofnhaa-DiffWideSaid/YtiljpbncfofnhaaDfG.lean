/- diff: what stays, plainly, as the loops have it; its memory. -/
import Derived.Test.YtiljpbncfofnhaaDfE
import Derived.Test.YtiljpbncfofnhaaDfF
namespace Go.Proofs.Ytiljpbncfofnhaa.Dif
open Go.RowKit FragA FragB MayA Tree EdC EdB
set_option linter.unusedVariables false
set_option linter.unusedSimpArgs false

def flS (fs : List (Option Nat)) (m : Nat) : List Nat := List.replicate m 0 ++ (fs.drop m).map (fun o => o.getD 0)
def llS (fs : List (Option Nat)) (m : Nat) : List Nat := List.replicate m 0 ++ lngOf (fs.drop m)
theorem flS_len {fs : List (Option Nat)} {m : Nat} (h : m ≤ fs.length) : (flS fs m).length = fs.length := by simp [flS]; omega
theorem llS_len {fs : List (Option Nat)} {m : Nat} (h : m ≤ fs.length) : (llS fs m).length = fs.length := by simp [llS, lngOf_len]; omega
theorem drop_at {α : Type} {l : List α} {j : Nat} {x : α} (h : l[j]? = some x) : l.drop j = x :: l.drop (j + 1) := by
  obtain ⟨hj, e⟩ := List.getElem?_eq_some_iff.1 h
  rw [List.drop_eq_getElem_cons hj, e]
theorem rep_set (j : Nat) (r : List Nat) (v : Nat) : (List.replicate (j + 1) 0 ++ r).set j v = List.replicate j 0 ++ v :: r := by
  rw [List.replicate_succ', List.append_assoc, List.set_append, if_neg (by simp)]
  simp
theorem rep_next (j : Nat) (r : List Nat) : List.replicate (j + 1) 0 ++ r = List.replicate j 0 ++ 0 :: r := by
  rw [List.replicate_succ', List.append_assoc]; rfl
theorem flS_none {fs : List (Option Nat)} {j : Nat} (h : fs[j]? = some none) : flS fs j = flS fs (j + 1) := by
  unfold flS
  rw [drop_at h, rep_next]; rfl
theorem flS_some {fs : List (Option Nat)} {j i : Nat} (h : fs[j]? = some (some i)) : (flS fs (j + 1)).set j i = flS fs j := by
  unfold flS
  rw [drop_at h, rep_set]; rfl
theorem llS_none {fs : List (Option Nat)} {j : Nat} (h : fs[j]? = some none) : llS fs j = llS fs (j + 1) := by
  unfold llS
  rw [drop_at h, rep_next]; rfl
theorem llS_some {fs : List (Option Nat)} {j i : Nat} (h : fs[j]? = some (some i)) : (llS fs (j + 1)).set j (longOf (pairsOf (fs.drop (j + 1))) i + 1) = llS fs j := by
  unfold llS
  rw [drop_at h, rep_set, Nat.add_comm]; rfl
theorem needOf_none {fs : List (Option Nat)} {j : Nat} (h : fs[j]? = some none) : needOf (fs.drop j) = needOf (fs.drop (j + 1)) := by
  rw [drop_at h]
  simp [needOf, lngOf]
theorem needOf_some {fs : List (Option Nat)} {j i : Nat} (h : fs[j]? = some (some i)) : needOf (fs.drop j) = max (needOf (fs.drop (j + 1))) (longOf (pairsOf (fs.drop (j + 1))) i + 1) := by
  rw [drop_at h]
  simp only [needOf, lngOf, List.foldr_cons]
  omega
theorem pairsOf_none {fs : List (Option Nat)} {j : Nat} (h : fs[j]? = some none) : pairsOf (fs.drop j) = pairsOf (fs.drop (j + 1)) := by rw [drop_at h]; rfl
theorem pairsOf_some {fs : List (Option Nat)} {j i : Nat} (h : fs[j]? = some (some i)) : pairsOf (fs.drop j) = (i, longOf (pairsOf (fs.drop (j + 1))) i + 1) :: pairsOf (fs.drop (j + 1)) := by rw [drop_at h]; simp only [pairsOf, Nat.add_comm 1 (longOf _ _)]
theorem longOf_le {vals : List (Nat × Nat)} {b i : Nat} (h : ∀ x ∈ vals, x.2 ≤ b) : longOf vals i ≤ b := by
  rcases longOf_met vals i with h0 | ⟨x, hx, _, e⟩
  · omega
  · rw [← e]; exact h x hx
theorem pairs_le : ∀ (fs : List (Option Nat)), ∀ x ∈ pairsOf fs, x.2 ≤ fs.length
  | [], x, h => by cases h
  | none :: r, x, h => by have := pairs_le r x h; simp only [List.length_cons]; omega
  | some i :: r, x, h => by
    rcases List.mem_cons.1 h with rfl | h
    · have := longOf_le (i := i) (pairs_le r)
      simp only [List.length_cons]
      omega
    · have := pairs_le r x h; simp only [List.length_cons]; omega
theorem pairs_mem : ∀ (fs : List (Option Nat)), ∀ x ∈ pairsOf fs, some x.1 ∈ fs
  | [], x, h => by cases h
  | none :: r, x, h => List.mem_cons_of_mem _ (pairs_mem r x h)
  | some i :: r, x, h => by
    rcases List.mem_cons.1 h with rfl | h
    · exact List.mem_cons_self
    · exact List.mem_cons_of_mem _ (pairs_mem r x h)
theorem long_le (fs : List (Option Nat)) (j i : Nat) : longOf (pairsOf (fs.drop j)) i ≤ fs.length := by
  have := longOf_le (i := i) (pairs_le (fs.drop j))
  rw [List.length_drop] at this
  omega
theorem lng_le : ∀ (fs : List (Option Nat)), ∀ x ∈ lngOf fs, x ≤ fs.length
  | [], x, h => by cases h
  | none :: r, x, h => by
    rcases List.mem_cons.1 h with rfl | h
    · omega
    · have := lng_le r x h; simp only [List.length_cons]; omega
  | some i :: r, x, h => by
    rcases List.mem_cons.1 h with rfl | h
    · have := longOf_le (i := i) (pairs_le r)
      simp only [List.length_cons]
      omega
    · have := lng_le r x h; simp only [List.length_cons]; omega
theorem foldr_max_le {l : List Nat} {b : Nat} (h : ∀ x ∈ l, x ≤ b) : l.foldr max 0 ≤ b := by
  induction l with
  | nil => simp
  | cons a l ih =>
    have h1 := h a List.mem_cons_self
    have h2 := ih fun x hx => h x (List.mem_cons_of_mem _ hx)
    simp only [List.foldr_cons]
    omega
theorem need_le (fs : List (Option Nat)) (m : Nat) : needOf (fs.drop m) ≤ fs.length := by
  have := foldr_max_le (lng_le (fs.drop m))
  rw [List.length_drop] at this
  unfold needOf
  omega
theorem lng_none : ∀ {fs : List (Option Nat)} {j : Nat}, fs[j]? = some none → (lngOf fs)[j]? = some 0
  | o :: r, 0, h => by simp at h; subst h; rfl
  | none :: r, j + 1, h => by simpa [lngOf] using lng_none (fs := r) (j := j) (by simpa using h)
  | some i :: r, j + 1, h => by simpa [lngOf] using lng_none (fs := r) (j := j) (by simpa using h)
theorem zip_drop {fs : List (Option Nat)} {j g : Nat} {o : Option Nat} (h : fs[j]? = some o) (hg : (lngOf fs)[j]? = some g) : (fs.zip (lngOf fs)).drop j = (o, g) :: (fs.zip (lngOf fs)).drop (j + 1) :=
  drop_at (by rw [List.getElem?_zip_eq_some]; exact ⟨h, hg⟩)
theorem selL_no {o : Option Nat} {g need j : Nat} {last : Int} {r : List (Option Nat × Nat)} (h : ∀ i, o = some i → ¬ (0 < need ∧ g = need ∧ last < (i : Int))) : selL ((o, g) :: r) need last j = selL r need last (j + 1) := by
  rw [selL.eq_def]
  cases o with
  | none => rfl
  | some i => simp only [if_neg (h i rfl)]
theorem selL_yes {i g need j : Nat} {last : Int} {r : List (Option Nat × Nat)} (h : 0 < need ∧ g = need ∧ last < (i : Int)) : selL ((some i, g) :: r) need last j = (i, j) :: selL r (need - 1) (i : Int) (j + 1) := by
  rw [selL.eq_def]
  simp only [if_pos h]
theorem selL_len : ∀ (zs : List (Option Nat × Nat)) (need : Nat) (last : Int) (j : Nat), (selL zs need last j).length ≤ zs.length
  | [], _, _, _ => by simp [selL]
  | (o, g) :: r, need, last, j => by
    unfold selL
    cases o with
    | none => have := selL_len r need last (j + 1); simp only [List.length_cons]; omega
    | some i =>
      simp only
      split
      · have := selL_len r (need - 1) (i : Int) (j + 1); simp only [List.length_cons]; omega
      · have := selL_len r need last (j + 1); simp only [List.length_cons]; omega
theorem stayL_len (a b : List Fr) : (stayL a b).length ≤ b.length := by
  have := selL_len ((b.map (fromL a)).zip (lngOf (b.map (fromL a)))) (needOf (b.map (fromL a))) (-1) 0
  simp only [stayL]
  simp only [List.length_zip, List.length_map] at this
  omega
theorem froms_at {a b : List Fr} {j : Nat} {g : Fr} (h : b[j]? = some g) : (b.map (fromL a))[j]? = some (fromL a g) := by rw [List.getElem?_map, h]; rfl
theorem fromL_none {a : List Fr} {g : Fr} (h : keyAt a g = none) : fromL a g = none := by rw [fromL, h]
theorem fromL_at {a : List Fr} {g : Fr} {i : Nat} {f : Fr} (h : keyAt a g = some i) (hf : a[i]? = some f) : fromL a g = if canB f g then some i else none := by
  rw [fromL, h]
  simp only [hf]
theorem pairs_lt {a b : List Fr} {m : Nat} : ∀ x ∈ pairsOf ((b.map (fromL a)).drop m), x.1 < a.length := fun x hx => by
  have h := List.mem_of_mem_drop (pairs_mem _ x hx)
  obtain ⟨g, _, e⟩ := List.mem_map.1 h
  obtain ⟨_, f, hf, _⟩ := fromL_some e
  exact (List.getElem?_eq_some_iff.1 hf).1

/-! ### memory -/
def encP (x : Nat × Nat) : List Value := [.int .i64 (x.1 : Int), .int .i64 (x.2 : Int)]
theorem encP_len (x : Nat × Nat) : (encP x).length = 2 := rfl
theorem encP_one (x : Nat × Nat) : ∀ u ∈ encP x, u.oneCell' = true := by simp [encP, Value.oneCell']
theorem pairInfo : (Try.prog.info? 87).map (fun i => (i.zero, i.size, i.bytes)) = some (some (.agg #[.int .i64 0, .int .i64 0]), 2, 16) := by kernel_rfl
theorem PSl.at_ {w : World} {B : Nat} {A : Option Addr} {l : List (Nat × Nat)} (h : Sl w B 2 encP A l) {k : Nat} {x : Nat × Nat} (hx : l[k]? = some x) :
    ∃ g off, A = some ⟨g, off, none⟩ ∧ g < B ∧ w.cell? ⟨g, off + k * 2, none⟩ = some (.int .i64 (x.1 : Int)) ∧ w.cell? ⟨g, off + k * 2 + 1, none⟩ = some (.int .i64 (x.2 : Int)) := by
  obtain ⟨g, off, e, hb, hc⟩ := Sl.at_ h hx
  exact ⟨g, off, e, hb, hc 0 _ rfl, hc 1 _ rfl⟩
theorem p_lit (w : World) (x : Nat × Nat) : Sl (w.alloc (.cells #[.int .i64 (x.1 : Int), .int .i64 (x.2 : Int)] 87)) (w.alloc (.cells #[.int .i64 (x.1 : Int), .int .i64 (x.2 : Int)] 87)).heap.size 2 encP (some ⟨w.heap.size, 0, none⟩) [x] :=
  fun _ => ⟨w.heap.size, 0, rfl, by simp, fun k y hy j v hv => by
    rcases k with _ | k
    · simp at hy; subst hy
      rw [show (⟨w.heap.size, 0 + 0 * 2 + j, none⟩ : Addr) = ⟨w.heap.size, j, none⟩ from by simp, (Blk.new w _ _).cell j]
      simpa [encP] using hv
    · simp at hy⟩
/-- the call hands back what stays, and the error number -/
def RetSt (w : World) (x : List (Nat × Nat) × Int) (e : Ending) (w' : World) : Prop :=
  ∃ v, e = .returned (.tuple #[v, .int .i64 x.2]) ∧ OwnA w' 87 2 encP v x.1 ∧ (∀ g, v.ownBlock = some g → w.heap.size ≤ g) ∧ Below w.heap.size w w'
/-- the memory of Stay -/
structure StIn (w wr : World) (r b1 b2 g gf gl na nb : Nat) (a : List Fr) (best fl ll : List Nat) : Prop where
  km : KMap wr r (placesL a 0)
  ch : ChIn wr b1 b2 g na best
  fr : OwnA wr 3 1 encK (.slice (some ⟨gf, 0, none⟩) nb nb) fl
  lo : OwnA wr 3 1 encK (.slice (some ⟨gl, 0, none⟩) nb nb) ll
  dist : gf ≠ gl ∧ gf ≠ b1 ∧ gl ≠ b1 ∧ gf ≠ g ∧ gl ≠ g
  fresh : w.heap.size ≤ r ∧ w.heap.size ≤ b1 ∧ w.heap.size ≤ b2 ∧ w.heap.size ≤ g ∧ w.heap.size ≤ gf ∧ w.heap.size ≤ gl
  be : Below w.heap.size w wr
theorem KMap.off {wr : World} {r : Nat} {ks : List ((Int × Int) × Int)} {α : Type} {e : TypeId} {c : Nat} {enc : α → List Value} {v : Value} {l : List α} (h : KMap wr r ks) (ho : OwnA wr e c enc v l) {g : Nat} (hg : v.ownBlock = some g) : r ≠ g := by
  obtain ⟨_, _, cur, _, hh, _⟩ := ho.row hg
  exact h.far hh
section
variable {w wr w' : World} {r b1 b2 g gf gl na nb : Nat} {a : List Fr} {best best' fl ll : List Nat}
theorem StIn.ext (h : StIn w wr r b1 b2 g gf gl na nb a best fl ll) (hb : Below wr.heap.size wr w') : StIn w w' r b1 b2 g gf gl na nb a best fl ll :=
  ⟨h.km.ext hb, h.ch.ext hb, h.fr.ext hb, h.lo.ext hb, h.dist, h.fresh, ext_under h.be (Nat.le_refl _) hb⟩
theorem StIn.drewN (h : StIn w wr r b1 b2 g gf gl na nb a best fl ll) (k : Nat) : StIn w (wr.drewN k) r b1 b2 g gf gl na nb a best fl ll := h.ext (bdrewN (Below.refl _ _) k)
theorem StIn.count (h : StIn w wr r b1 b2 g gf gl na nb a best fl ll) (hc : ChIn w' b1 b2 g na best') (hg : Chg (fun k => k = g) wr w') : StIn w w' r b1 b2 g gf gl na nb a best' fl ll :=
  ⟨h.km.chg hg (h.km.off h.ch.row rfl), hc, h.fr.chg hg (fun b hb => by simp [Value.ownBlock] at hb; subst hb; exact h.dist.2.2.2.1), h.lo.chg hg (fun b hb => by simp [Value.ownBlock] at hb; subst hb; exact h.dist.2.2.2.2), h.dist, h.fresh,
    h.be.trans (hg.below h.be.size (fun i hi e => by have := h.fresh.2.2.2.1; omega))⟩
theorem StIn.setf (h : StIn w wr r b1 b2 g gf gl na nb a best fl ll) {j : Nat} (hj : j < fl.length) (v : Nat) : StIn w (wr.setCell ⟨gf, j, none⟩ (.int .i64 (v : Int))) r b1 b2 g gf gl na nb a best (fl.set j v) ll := by
  have hset : Chg (fun i => i = gf) wr (wr.setCell ⟨gf, j, none⟩ (.int .i64 (v : Int))) := (Chg.refl (fun i => i = gf) wr).setCell (p := ⟨gf, j, none⟩) (fun _ => rfl) _
  have hs := h.fr.store encK_len (k := j) (j := 0) (x' := v) (u := .int .i64 (v : Int)) (List.getElem?_eq_getElem hj) (by omega) rfl
  simp only [Nat.zero_add, Nat.mul_one, Nat.add_zero] at hs
  exact ⟨h.km.chg hset (h.km.off h.fr rfl), h.ch.chg hset (fun e => h.dist.2.1 e.symm) (fun e => h.fr.apart h.ch.sl (by decide) (by rw [e]; rfl)) (fun e => h.dist.2.2.2.1 e.symm), hs, h.lo.chg hset (fun b hb => by simp [Value.ownBlock] at hb; subst hb; exact fun e => h.dist.1 e.symm), h.dist, h.fresh,
    h.be.setCell (by have := h.fresh.2.2.2.2.1; simpa using this) _⟩
theorem StIn.setl (h : StIn w wr r b1 b2 g gf gl na nb a best fl ll) {j : Nat} (hj : j < ll.length) (v : Nat) : StIn w (wr.setCell ⟨gl, j, none⟩ (.int .i64 (v : Int))) r b1 b2 g gf gl na nb a best fl (ll.set j v) := by
  have hset : Chg (fun i => i = gl) wr (wr.setCell ⟨gl, j, none⟩ (.int .i64 (v : Int))) := (Chg.refl (fun i => i = gl) wr).setCell (p := ⟨gl, j, none⟩) (fun _ => rfl) _
  have hs := h.lo.store encK_len (k := j) (j := 0) (x' := v) (u := .int .i64 (v : Int)) (List.getElem?_eq_getElem hj) (by omega) rfl
  simp only [Nat.zero_add, Nat.mul_one, Nat.add_zero] at hs
  exact ⟨h.km.chg hset (h.km.off h.lo rfl), h.ch.chg hset (fun e => h.dist.2.2.1 e.symm) (fun e => h.lo.apart h.ch.sl (by decide) (by rw [e]; rfl)) (fun e => h.dist.2.2.2.2 e.symm), h.fr.chg hset (fun b hb => by simp [Value.ownBlock] at hb; subst hb; exact h.dist.1), hs, h.dist, h.fresh,
    h.be.setCell (by have := h.fresh.2.2.2.2.2; simpa using this) _⟩
/-- cell j of a row of numbers -/
theorem K.cell {gf nb : Nat} {fl : List Nat} (h : OwnA wr 3 1 encK (.slice (some ⟨gf, 0, none⟩) nb nb) fl) {j x : Nat} (hx : fl[j]? = some x) : wr.cell? ⟨gf, j, none⟩ = some (.int .i64 (x : Int)) := by
  obtain ⟨g', off, hA, _, cx⟩ := KSl.at_ (h.sl encK_len) hx
  injection hA with hA
  injection hA with hA1 hA2 _
  subst hA1
  subst hA2
  rw [Nat.zero_add] at cx
  exact cx
theorem K.free {gf nb : Nat} {fl : List Nat} (h : OwnA wr 3 1 encK (.slice (some ⟨gf, 0, none⟩) nb nb) fl) (j : Nat) : wr.frozen? ⟨gf, j, none⟩ = false := by
  obtain ⟨_, _, cur', _, hh, _⟩ := h.row (g := gf) rfl
  exact frozen_of_row wr gf j cur' _ hh
end
end Go.Proofs.Ytiljpbncfofnhaa.Dif
