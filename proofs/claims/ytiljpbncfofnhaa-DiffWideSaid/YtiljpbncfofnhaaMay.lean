/- frag: whether a fragment may be, of the program and of the document. -/
import Derived.Test.YtiljpbncfofnhaaFragA
import Derived.Test.YtiljpbncfofnhaaHeap
import Derived.Outline
import Derived.BigQuiet
import Derived.Deep.QuietTactic
import Derived.Deep.RegionWith
import Derived.Deep.RegionHeld3
import Derived.Deep.DrawnRows
import Derived.Deep.LoopGhost
import Derived.Deep.DeepCutAuto
import Derived.Laws.EntriesVeiled
namespace Go.Proofs.Ytiljpbncfofnhaa.MayA
open Go.RowKit Go.ChangeShapes Go.WideShapes Go.ChangeAt
set_option linter.unusedVariables false
set_option linter.unusedSimpArgs false
attribute [local go_sem ↓] Go.wp_at_zero Go.wp_at_succ

def encI (n : Int) : List Value := [.int .i64 n]
abbrev InSl (w : World) (B : Nat) (A : Option Addr) (l : List Int) : Prop := Sl w B 1 encI A l
theorem InSl.at_ {w : World} {B : Nat} {A : Option Addr} {l : List Int} (h : InSl w B A l) {k : Nat} {b : Int} (hx : l[k]? = some b) :
    ∃ g off, A = some ⟨g, off, none⟩ ∧ g < B ∧ w.cell? ⟨g, off + k, none⟩ = some (.int .i64 b) := by
  obtain ⟨g, off, e, hb, hc⟩ := Sl.at_ h hx
  exact ⟨g, off, e, hb, by simpa using hc 0 _ rfl⟩

/-- a number lies beyond bounds -/
def out (lo hi n : Int) : Bool := decide (n < lo) || decide (hi < n)

theorem one_any (a b : Addr) (lo hi n : Int) (w : World) (ha : w.cell? a = some (.int .i64 lo)) (hb : w.cell? b = some (.int .i64 hi)) :
    Calls Try.prog 108 #[.int .i64 n, .pointer (some a), .pointer (some b)] w fun e w' => e = .returned (.bool (out lo hi n)) ∧ w = w' := by
  by_cases h : n < lo
  · go_enter Try.func108, Try.ntmps108
    go_wp2
    go_ret
    exact ⟨ret_bool (by simp [out, h]), rfl⟩
  · by_cases h' : hi < n
    · go_enter Try.func108, Try.ntmps108
      go_wp2
      go_ret
      exact ⟨ret_bool (by simp [out, h, h']), rfl⟩
    · go_enter Try.func108, Try.ntmps108
      go_wp2
      go_ret
      exact ⟨ret_bool (by simp [out, h, h']), rfl⟩

/-- where a number stands first that lies beyond bounds, from k on -/
def outFrom (lo hi : Int) : List Int → Nat → Int
  | [], _ => -1
  | n :: r, k => if out lo hi n then k else outFrom lo hi r (k + 1)
theorem outFrom_iff (lo hi : Int) : ∀ (l : List Int) (k : Nat), decide (0 ≤ outFrom lo hi l k) = l.any (out lo hi)
  | [], k => by simp [outFrom]
  | n :: r, k => by
    unfold outFrom
    split
    · rename_i h; simp [h]
    · rename_i h; rw [outFrom_iff lo hi r (k + 1)]; simp [h]

theorem index_any (l : List Int) (A : Option Addr) (cap : Nat) (a b : Addr) (lo hi : Int) (w : World) (hl : InSl w w.heap.size A l) (hm : l.length ≤ maxLen)
    (ha : w.cell? a = some (.int .i64 lo)) (hb : w.cell? b = some (.int .i64 hi)) :
    Calls Try.prog 114 #[.slice A l.length cap, .func (Fn.func 108) #[] #[.pointer (some a), .pointer (some b)]] w
      fun e w' => e = .returned (.int .i64 (outFrom lo hi l 0)) ∧ w = w' := by
  unfold maxLen at hm
  go_enter Try.func114, Try.ntmps114
  go_wp2
  go_loop [8] (fun v => ∃ j : Nat, j ≤ l.length ∧ v = .int .i64 j ∧ Hid (outFrom lo hi l 0 = outFrom lo hi (l.drop j) j)) (fun v => l.length - (intOf v).toNat)
  case atStart => exact ⟨0, by omega, rfl, rfl⟩
  case round =>
    obtain ⟨j, hj, rfl, hf⟩ := hrel
    by_cases hlt : j < l.length
    · obtain ⟨bb, off, rfl, hbb, c0⟩ := InSl.at_ hl (List.getElem?_eq_getElem hlt)
      have Hc := Lib.hid (one_any a b lo hi l[j] w ha hb)
      have Hd := Lib.hid (List.drop_eq_getElem_cons hlt)
      generalize l[j] = n at *
      cases ho : out lo hi n with
      | true =>
        rw [ho] at Hc
        have Ho := Lib.hid ho
        clear ho
        go_wp2_with (go_at_call 108; refine (Hc.out).mono ?_; rintro e w' ⟨rfl, rfl⟩)
        go_ret
        exact ⟨ret_int (by rw [hf.out, Hd.out, outFrom, if_pos Ho.out]), rfl⟩
      | false =>
        rw [ho] at Hc
        have Ho := Lib.hid ho
        clear ho
        go_wp2_with (go_at_call 108; refine (Hc.out).mono ?_; rintro e w' ⟨rfl, rfl⟩)
        go_round
        case rel => exact ⟨j + 1, by omega, by go_num, by rw [Hid, hf.out, Hd.out, outFrom, if_neg (by simp [Ho.out])]⟩
        case measure => simp [intOf]; omega
    · go_wp2
      go_ret
      exact ⟨ret_int (by rw [hf.out, List.drop_of_length_le (by omega)]; rfl), rfl⟩

theorem contains_any (l : List Int) (A : Option Addr) (cap : Nat) (a b : Addr) (lo hi : Int) (w : World) (hl : InSl w w.heap.size A l) (hm : l.length ≤ maxLen)
    (ha : w.cell? a = some (.int .i64 lo)) (hb : w.cell? b = some (.int .i64 hi)) :
    Calls Try.prog 107 #[.slice A l.length cap, .func (Fn.func 108) #[] #[.pointer (some a), .pointer (some b)]] w
      fun e w' => e = .returned (.bool (l.any (out lo hi))) ∧ w = w' := by
  have Hc := Lib.hid (index_any l A cap a b lo hi w hl hm ha hb)
  have Hi := Lib.hid (outFrom_iff lo hi l 0)
  go_enter Try.func107, Try.ntmps107
  go_wp2_with fail
  refine (Hc.out).mono ?_; rintro e w' ⟨rfl, rfl⟩
  generalize outFrom lo hi l 0 = r at *
  go_wp2
  go_ret
  exact ⟨ret_bool (by rw [← Hi.out]), rfl⟩

theorem within_any (l : List Int) (A : Option Addr) (cap : Nat) (lo hi : Int) (w : World) (hl : InSl w w.heap.size A l) (hm : l.length ≤ maxLen) (n : Nat) (hn : n = l.length) :
    Calls Try.prog 93 #[.int .i64 lo, .int .i64 hi, .slice A n cap] w fun e w' => e = .returned (.bool (!l.any (out lo hi))) ∧ Below w.heap.size w w' := by
  subst hn
  have hc := contains_any l A cap ⟨w.heap.size, 0, none⟩ ⟨w.heap.size + 1, 0, none⟩ lo hi ((w.alloc (.cells #[.int .i64 lo] 3)).alloc (.cells #[.int .i64 hi] 3))
    ((hl.alloc (Nat.le_refl _) _).alloc (by simp) _ |>.more (by simp; omega)) hm (by go_simp) (by go_simp)
  have Hc := Lib.hid hc
  clear hc
  go_enter Try.func93, Try.ntmps93
  go_wp2_with (go_at_call 107; refine (Hc.out).mono ?_; rintro e w' ⟨rfl, rfl⟩)
  go_ret
  exact ⟨rfl, ((Below.refl _ _).alloc (Nat.le_refl _) _).alloc (by simp) _⟩

def rng (lo hi n : Int) : Bool := !out lo hi n
/-- whether a fragment may be -/
def mayB (f : Fr) : Bool :=
  rng 0 1099511627776 f.node && rng 0 1099511627776 f.part && rng 0 2048 f.depth && rng (-1099511627776) 1099511627776 f.x && rng (-1099511627776) 1099511627776 f.y &&
    rng (-1099511627776) 1099511627776 f.w && rng (-1099511627776) 1099511627776 f.h && decide (f.text.size ≤ 256)

/-- a slice literal of numbers -/
theorem lit_sl (w : World) (l : List Int) (t : TypeId) : InSl (w.alloc (.cells (l.map (Value.int .i64)).toArray t)) (w.alloc (.cells (l.map (Value.int .i64)).toArray t)).heap.size (some ⟨w.heap.size, 0, none⟩) l := by
  intro _
  refine ⟨w.heap.size, 0, rfl, by simp, fun k x hx j v hv => ?_⟩
  have hj : j = 0 := by
    rcases j with _ | j
    · rfl
    · simp [encI] at hv
  subst hj
  simp only [encI, List.getElem?_cons_zero, Option.some.injEq] at hv
  subst hv
  rw [(Blk.new w t _).cell]
  simp [hx]

/-- within at a world in which a literal of numbers has just been laid -/
theorem within_lit (lo hi : Int) (l : List Int) (cs : Array Value) (hcs : cs = (l.map (Value.int .i64)).toArray) (n : Nat) (hn : n = l.length) (hm : l.length ≤ maxLen) (w : World) (g : Nat) (hg : g = w.heap.size) :
    Calls Try.prog 93 #[.int .i64 lo, .int .i64 hi, .slice (some ⟨g, 0, none⟩) n n] (w.alloc (.cells cs 3))
      fun e w' => e = .returned (.bool (!l.any (out lo hi))) ∧ Below w.heap.size w w' := by
  subst hcs
  subst hg
  refine (within_any l (some ⟨w.heap.size, 0, none⟩) n lo hi _ (lit_sl w l 3) hm n hn).mono ?_
  rintro e w' ⟨rfl, hb⟩
  exact ⟨rfl, bto ((Below.refl _ _).alloc (Nat.le_refl _) _) hb (by simp)⟩

theorem may_any (f : Fr) (w : World) (ht : f.text.size ≤ 140737488355328) : Calls Try.prog 75 #[f.agg] w fun e w' => e = .returned (.bool (mayB f)) ∧ Below w.heap.size w w' := by
  have H1 := fun w g hg => Lib.hid (within_lit 0 1099511627776 [f.node, f.part] #[.int .i64 f.node, .int .i64 f.part] rfl 2 rfl (by simp [maxLen]) w g hg)
  have H2 := fun w g hg => Lib.hid (within_lit 0 2048 [f.depth] #[.int .i64 f.depth] rfl 1 rfl (by simp [maxLen]) w g hg)
  have H3 := fun w g hg => Lib.hid (within_lit (-1099511627776) 1099511627776 [f.x, f.y, f.w, f.h] #[.int .i64 f.x, .int .i64 f.y, .int .i64 f.w, .int .i64 f.h] rfl 4 rfl (by simp [maxLen]) w g hg)
  have Hm : Hid (mayB f = ((!([f.node, f.part].any (out 0 1099511627776))) && (!([f.depth].any (out 0 2048))) && (!([f.x, f.y, f.w, f.h].any (out (-1099511627776) 1099511627776))) && decide (f.text.size ≤ 256))) := by
    simp [Hid, mayB, rng, Bool.and_assoc]
  generalize ([f.node, f.part].any (out 0 1099511627776)) = b1 at *
  generalize ([f.depth].any (out 0 2048)) = b2 at *
  generalize ([f.x, f.y, f.w, f.h].any (out (-1099511627776) 1099511627776)) = b3 at *
  rw [Hm.out]
  clear Hm
  unfold Fr.agg
  cases b1 with
  | true =>
    go_enter Try.func75, Try.ntmps75
    go_wp2_with fail
    refine ((H1 _ _ (by simp)).out).mono ?_; rintro e w' ⟨rfl, hb1⟩
    go_wp2_with fail
    go_ret
    exact ⟨rfl, bto ((Below.refl _ _).alloc (Nat.le_refl _) _) hb1 (by simp)⟩
  | false =>
    go_enter Try.func75, Try.ntmps75
    go_wp2_with fail
    refine ((H1 _ _ (by simp)).out).mono ?_; rintro e w1 ⟨rfl, hb1⟩
    have c2 : w1.cell? ⟨w.heap.size, 2, none⟩ = some (.int .i64 f.depth) := (hb1.cell (p := ⟨w.heap.size, 2, none⟩) (by simp)).trans (by go_simp)
    have c3 : w1.cell? ⟨w.heap.size, 3, none⟩ = some (.int .i64 f.x) := (hb1.cell (p := ⟨w.heap.size, 3, none⟩) (by simp)).trans (by go_simp)
    have c4 : w1.cell? ⟨w.heap.size, 4, none⟩ = some (.int .i64 f.y) := (hb1.cell (p := ⟨w.heap.size, 4, none⟩) (by simp)).trans (by go_simp)
    have c5 : w1.cell? ⟨w.heap.size, 5, none⟩ = some (.int .i64 f.w) := (hb1.cell (p := ⟨w.heap.size, 5, none⟩) (by simp)).trans (by go_simp)
    have c6 : w1.cell? ⟨w.heap.size, 6, none⟩ = some (.int .i64 f.h) := (hb1.cell (p := ⟨w.heap.size, 6, none⟩) (by simp)).trans (by go_simp)
    have c7 : w1.cell? ⟨w.heap.size, 7, none⟩ = some (.string f.text) := (hb1.cell (p := ⟨w.heap.size, 7, none⟩) (by simp)).trans (by go_simp)
    have hB1 : Below w.heap.size w w1 := bto ((Below.refl _ _).alloc (Nat.le_refl _) _) hb1 (by simp)
    have hs1 : w.heap.size + 1 ≤ w1.heap.size := by have := hb1.size; simp at this; exact this
    clear hb1
    cases b2 with
    | true =>
      go_wp2_with fail
      refine ((H2 _ _ (by simp)).out).mono ?_; rintro e w2 ⟨rfl, hb2⟩
      go_wp2_with fail
      go_ret
      exact ⟨rfl, bto hB1 hb2 hB1.size⟩
    | false =>
      go_wp2_with fail
      refine ((H2 _ _ (by simp)).out).mono ?_; rintro e w2 ⟨rfl, hb2⟩
      have d3 : w2.cell? ⟨w.heap.size, 3, none⟩ = some (.int .i64 f.x) := (hb2.cell (p := ⟨w.heap.size, 3, none⟩) (by simp; omega)).trans c3
      have d4 : w2.cell? ⟨w.heap.size, 4, none⟩ = some (.int .i64 f.y) := (hb2.cell (p := ⟨w.heap.size, 4, none⟩) (by simp; omega)).trans c4
      have d5 : w2.cell? ⟨w.heap.size, 5, none⟩ = some (.int .i64 f.w) := (hb2.cell (p := ⟨w.heap.size, 5, none⟩) (by simp; omega)).trans c5
      have d6 : w2.cell? ⟨w.heap.size, 6, none⟩ = some (.int .i64 f.h) := (hb2.cell (p := ⟨w.heap.size, 6, none⟩) (by simp; omega)).trans c6
      have d7 : w2.cell? ⟨w.heap.size, 7, none⟩ = some (.string f.text) := (hb2.cell (p := ⟨w.heap.size, 7, none⟩) (by simp; omega)).trans c7
      have hB2 : Below w.heap.size w w2 := bto hB1 hb2 hB1.size
      have hs2 : w.heap.size + 1 ≤ w2.heap.size := Nat.le_trans hs1 hb2.size
      clear hb2 c2 c3 c4 c5 c6 c7
      cases b3 with
      | true =>
        go_wp2_with fail
        refine ((H3 _ _ (by simp)).out).mono ?_; rintro e w3 ⟨rfl, hb3⟩
        go_wp2_with fail
        go_ret
        exact ⟨rfl, bto hB2 hb3 hB2.size⟩
      | false =>
        go_wp2_with fail
        refine ((H3 _ _ (by simp)).out).mono ?_; rintro e w3 ⟨rfl, hb3⟩
        have e7 : w3.cell? ⟨w.heap.size, 7, none⟩ = some (.string f.text) := (hb3.cell (p := ⟨w.heap.size, 7, none⟩) (by simp; omega)).trans d7
        by_cases h256 : f.text.size ≤ 256
        · go_wp2
          go_ret
          exact ⟨ret_bool (by simp; omega), bto hB2 hb3 hB2.size⟩
        · go_wp2
          go_ret
          exact ⟨ret_bool (by simp; omega), bto hB2 hb3 hB2.size⟩

theorem in_any (n lo hi : Int) (w : World) : Calls Try.prog 94 #[.int .i64 n, .int .i64 lo, .int .i64 hi] w fun e w' => e = .returned (.bool (rng lo hi n)) ∧ w = w' := by
  by_cases h : n < lo
  · go_enter Try.func94, Try.ntmps94
    go_wp2
    go_ret
    exact ⟨ret_bool (by simp [rng, out, h]), rfl⟩
  · by_cases h' : hi < n
    · go_enter Try.func94, Try.ntmps94
      go_wp2
      go_ret
      exact ⟨ret_bool (by simp [rng, out, h, h']), rfl⟩
    · go_enter Try.func94, Try.ntmps94
      go_wp2
      go_ret
      exact ⟨ret_bool (by simp [rng, out, h, h']), rfl⟩

theorem rmay_any (f : Fr) (w : World) (ht : f.text.size ≤ 140737488355328) : Calls Try.prog 76 #[f.agg] w fun e w' => e = .returned (.bool (mayB f)) ∧ Below w.heap.size w w' := by
  unfold Fr.agg
  go_enter Try.func76, Try.ntmps76
  go_wp2_with (go_at_call 94; refine (in_any _ _ _ _).mono ?_; rintro e w' ⟨rfl, rfl⟩)
  all_goals
    go_ret
    exact ⟨ret_bool (by simp_all [mayB]; try omega), (by repeat (first | exact Below.refl _ _ | assumption | refine Below.drew ?_ | refine bdrewN ?_ _ | refine Below.alloc ?_ (by simp; try omega) _ | refine Below.setCell ?_ (by simp; try omega) _))⟩
end Go.Proofs.Ytiljpbncfofnhaa.MayA
