/- diff: what stays, and what the difference is, plainly. -/
import Derived.Test.YtiljpbncfofnhaaDfA
import Derived.Test.YtiljpbncfofnhaaTree
import Derived.Test.YtiljpbncfofnhaaEdI
namespace Go.Proofs.Ytiljpbncfofnhaa.Dif
open Go.RowKit FragA FragB MayA Tree EdC
set_option linter.unusedVariables false
set_option linter.unusedSimpArgs false

/-- can a fragment stay as another one? -/
def canB (f g : Fr) : Bool := (f.node == g.node && f.part == g.part) && (f.text.toList == g.text.toList || (f.depth == g.depth && (f.x == g.x && (f.y == g.y && (f.w == g.w && f.h == g.h)))))
/-- where the fragment of its key stands; -/
def keyAt (a : List Fr) (g : Fr) : Option Nat := if findFrom g.node g.part a 0 < 0 then none else some (findFrom g.node g.part a 0).toNat
/-- ... if it can stay as that one -/
def fromL (a : List Fr) (g : Fr) : Option Nat := match keyAt a g with
  | none => none
  | some i => match a[i]? with
    | none => none
    | some f => if canB f g then some i else none
/-- of those from here on: each that can stay, with how long the longest row is that begins with it -/
def pairsOf : List (Option Nat) → List (Nat × Nat)
  | [] => []
  | none :: r => pairsOf r
  | some i :: r => (i, 1 + longOf (pairsOf r) i) :: pairsOf r
def lngOf : List (Option Nat) → List Nat
  | [] => []
  | none :: r => 0 :: lngOf r
  | some i :: r => (1 + longOf (pairsOf r) i) :: lngOf r
def needOf (fs : List (Option Nat)) : Nat := (lngOf fs).foldr max 0
theorem lngOf_len : ∀ fs : List (Option Nat), (lngOf fs).length = fs.length
  | [] => rfl
  | none :: r => by simp [lngOf, lngOf_len r]
  | some i :: r => by simp [lngOf, lngOf_len r]
/-- the first ones that lead on -/
def selL : List (Option Nat × Nat) → Nat → Int → Nat → List (Nat × Nat)
  | [], _, _, _ => []
  | (o, g) :: r, need, last, j => match o with
    | none => selL r need last (j + 1)
    | some i => if 0 < need ∧ g = need ∧ last < (i : Int) then (i, j) :: selL r (need - 1) (i : Int) (j + 1) else selL r need last (j + 1)
def stayL (a b : List Fr) : List (Nat × Nat) := selL ((b.map (fromL a)).zip (lngOf (b.map (fromL a)))) (needOf (b.map (fromL a))) (-1) 0
/-- what stays, and the error number -/
def stayE (a b : List Fr) : List (Nat × Nat) × Int := if chk a ≠ 0 ∨ chk b ≠ 0 then ([], 200) else (stayL a b, 0)

/-- edits put together -/
def keepD (s : List Ed) : List Ed := match s.getLast? with
  | some e => if e.kind = 0 then s.dropLast ++ [⟨0, e.n + 1, e.node, e.part, e.f⟩] else s ++ [⟨0, 1, 0, 0, Fr.z⟩]
  | none => s ++ [⟨0, 1, 0, 0, Fr.z⟩]
def skipD (s : List Ed) (n : Int) : List Ed := if 0 < n then s ++ [⟨1, n, 0, 0, Fr.z⟩] else s
def becomeD (s : List Ed) (f g : Fr) : List Ed :=
  if Fr.beq f g then keepD s
  else if f.text.toList == g.text.toList then s ++ [⟨4, 0, 0, 0, ⟨0, 0, g.depth, g.x, g.y, g.w, g.h, ByteArray.empty⟩⟩]
  else s ++ [⟨5, 0, 0, 0, ⟨0, 0, 0, 0, 0, 0, 0, g.text⟩⟩]
/-- does it stand in the old ones just so? -/
def exactD (a : List Fr) (g : Fr) : Bool := match keyAt a g with
  | none => false
  | some i => match a[i]? with
    | none => false
    | some f => Fr.beq f g
def newD (a : List Fr) (s : List Ed) (g : Fr) : List Ed := if exactD a g then s ++ [⟨3, 0, g.node, g.part, Fr.z⟩] else s ++ [⟨2, 0, 0, 0, g⟩]
def diffGo (a : List Fr) : List Fr → Nat → Nat → List (Nat × Nat) → List Ed → List Ed
  | [], _, at_, _, s => skipD s ((a.length : Int) - at_)
  | g :: r, j, at_, [], s => diffGo a r (j + 1) at_ [] (newD a s g)
  | g :: r, j, at_, (i, j') :: st, s =>
    if j' = j then (match a[i]? with
      | some f => diffGo a r (j + 1) (i + 1) st (becomeD (skipD s ((i : Int) - at_)) f g)
      | none => s)
    else diffGo a r (j + 1) at_ ((i, j') :: st) (newD a s g)
def diffL (a b : List Fr) : List Ed := diffGo a b 0 0 (stayL a b) []
def diffE (a b : List Fr) : List Ed × Int := if chk a ≠ 0 ∨ chk b ≠ 0 then ([], 200) else (diffL a b, 0)

/-! what stays is sound -/
theorem keyAt_lt {a : List Fr} {g : Fr} {i : Nat} (h : keyAt a g = some i) : ∃ f, a[i]? = some f ∧ f.node = g.node ∧ f.part = g.part := by
  unfold keyAt at h
  split at h
  · cases h
  · obtain ⟨k, f, h1, h2, h3⟩ := EdF.find_at (nd := g.node) (p := g.part) a 0 (by omega)
    injection h with h
    rw [Nat.zero_add] at h1
    rw [h1, Int.toNat_natCast] at h
    subst h
    exact ⟨f, h2, h3⟩
theorem fromL_some {a : List Fr} {g : Fr} {i : Nat} (h : fromL a g = some i) : keyAt a g = some i ∧ ∃ f, a[i]? = some f ∧ canB f g = true := by
  unfold fromL at h
  cases hk : keyAt a g with
  | none => rw [hk] at h; cases h
  | some k =>
    rw [hk] at h
    simp only at h
    cases hf : a[k]? with
    | none => rw [hf] at h; cases h
    | some f =>
      rw [hf] at h
      simp only at h
      split at h
      · injection h with h
        subst h
        exact ⟨rfl, f, hf, ‹_›⟩
      · cases h
/-- what stays rises in both, and can -/
theorem selL_mem : ∀ (zs : List (Option Nat × Nat)) (need : Nat) (last : Int) (j : Nat) (x : Nat × Nat), x ∈ selL zs need last j → j ≤ x.2 ∧ x.2 < j + zs.length ∧ last < (x.1 : Int) ∧ ∃ g, zs[x.2 - j]? = some (some x.1, g)
  | [], _, _, _, x, h => by cases h
  | (o, g) :: r, need, last, j, x, h => by
    unfold selL at h
    have key : ∀ need' last', x ∈ selL r need' last' (j + 1) → last ≤ last' → j ≤ x.2 ∧ x.2 < j + ((o, g) :: r).length ∧ last < (x.1 : Int) ∧ ∃ g', ((o, g) :: r)[x.2 - j]? = some (some x.1, g') := by
      intro need' last' hx hl
      obtain ⟨a, b, c, g', hg⟩ := selL_mem r need' last' (j + 1) x hx
      refine ⟨by omega, by simp only [List.length_cons]; omega, by omega, g', ?_⟩
      rw [show x.2 - j = (x.2 - (j + 1)) + 1 from by omega, List.getElem?_cons_succ]
      exact hg
    cases o with
    | none => exact key _ _ h (Int.le_refl _)
    | some i =>
      simp only at h
      split at h
      · rename_i hc
        rcases List.mem_cons.1 h with rfl | h
        · exact ⟨Nat.le_refl _, by simp, hc.2.2, g, by simp⟩
        · exact key _ _ h (by omega)
      · exact key _ _ h (Int.le_refl _)
end Go.Proofs.Ytiljpbncfofnhaa.Dif
