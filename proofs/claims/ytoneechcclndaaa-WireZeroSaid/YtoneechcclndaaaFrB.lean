/- law 20: row, awake. -/
import Derived.Test.YtoneechcclndaaaFrA
import Derived.Test.YtoneechcclndaaaRTree
import Derived.Outline
import Derived.BigQuiet
import Derived.Deep.QuietTactic
import Derived.Deep.RegionWith
import Derived.Deep.RegionHeld3
import Derived.Deep.DrawnRows
import Derived.Deep.LoopGhost
import Derived.Deep.DeepCutAuto
import Derived.Laws.EntriesVeiled
namespace Go.Proofs.Ytoneechcclndaaa.FForm
open Go.RowKit Go.ChangeShapes Go.WideShapes Go.ChangeAt
set_option linter.unusedVariables false
set_option linter.unusedSimpArgs false
attribute [local go_sem ↓] Go.wp_at_zero Go.wp_at_succ
open Go.Shelf Go.Proofs.Ytoneechcclndaaa.Word Go.Proofs.Ytoneechcclndaaa.Wire Go.Proofs.Ytoneechcclndaaa.Msg FragA FragB MayA Tree FCheck Hang

def rowL : List Int → Nat → List Fr
  | [], _ => []
  | d :: r, i => ⟨(i : Int), 0, d, 0, 0, 0, 0, ⟨#[]⟩⟩ :: rowL r (i + 1)
theorem rowL_len : ∀ (l : List Int) (i : Nat), (rowL l i).length = l.length
  | [], i => rfl
  | d :: r, i => by rw [rowL, List.length_cons, rowL_len r (i + 1), List.length_cons]
theorem rowL_app : ∀ (a b : List Int) (i : Nat), rowL (a ++ b) i = rowL a i ++ rowL b (i + a.length)
  | [], b, i => rfl
  | d :: r, b, i => by
    rw [List.cons_append, rowL, rowL, rowL_app r b (i + 1), List.length_cons, List.cons_append, show i + 1 + r.length = i + (r.length + 1) from by omega]
/-- fragments that a function made -/
def RetFr (w : World) (l : List Fr) (e : Ending) (w' : World) : Prop :=
  Below w.heap.size w w' ∧ ∃ A n c, e = .returned (.slice A n c) ∧ OwnA w' 65 8 Fr.cells (.slice A n c) l ∧ ∀ k, (Value.slice A n c).ownBlock = some k → w.heap.size ≤ k
structure RwI (w wr : World) (ds : List Int) (j : Nat) (A : Option Addr) (n c : Nat) : Prop where
  own : OwnA wr 65 8 Fr.cells (.slice A n c) (rowL (ds.take j) 0)
  be : Below w.heap.size w wr
  fr : ∀ k, (Value.slice A n c).ownBlock = some k → w.heap.size ≤ k
theorem RwI.next {w wr w9 : World} {ds : List Int} {d : Int} {j : Nat} {A A' : Option Addr} {n c n' c' : Nat} {o : Obj} (h : RwI w wr ds j A n c) (hx : ds[j]? = some d)
    (hown : OwnA w9 65 8 Fr.cells (.slice A' n' c') (rowL (ds.take j) 0 ++ [⟨(j : Int), 0, d, 0, 0, 0, 0, ⟨#[]⟩⟩])) (hc : Chg (fun k => (Value.slice A n c).ownBlock = some k) (wr.alloc o) w9)
    (hat : (Value.slice A' n' c').ownBlock = (Value.slice A n c).ownBlock ∨ (Value.slice A' n' c').ownBlock = some (wr.alloc o).heap.size) : RwI w w9 ds (j + 1) A' n' c' := by
  have hbo := h.be.alloc h.be.size o
  have hj := (List.getElem?_eq_some_iff.1 hx).1
  have he : rowL (ds.take (j + 1)) 0 = rowL (ds.take j) 0 ++ [⟨(j : Int), 0, d, 0, 0, 0, 0, ⟨#[]⟩⟩] := by
    rw [List.take_add_one, hx, rowL_app, List.length_take, Nat.zero_add, Nat.min_eq_left (by omega)]; rfl
  rw [← he] at hown
  refine ⟨hown, hbo.trans (hc.below hbo.size fun i hi hs => by have := h.fr _ hs; omega), fun k hk => ?_⟩
  rcases hat with hat | hat
  · exact h.fr k (hat ▸ hk)
  · rw [hat] at hk; injection hk with hk; have := hbo.size; omega
set_option maxRecDepth 100000 in
theorem row_any (ds : List Int) (A : Option Addr) (n cap : Nat) (w : World) (hl : Sl w w.heap.size 1 encI A ds) (hn : Hid (n = ds.length)) (hm : n ≤ 100) : Calls Try.prog 70 #[.slice A n cap] w (RetFr w (rowL ds 0)) := by
  obtain ⟨i0, hi, hz, hz1, hz2⟩ := info_parts frInfo
  have HL := Lib.hid hl
  clear hl
  go_enter Try.func70, Try.ntmps70
  go_wp2
  go_loopg [3, 4] n (fun g vl vj wr => ∃ (j : Nat) (A2 : Option Addr) (n2 c2 : Nat), vj = .int .i64 (j : Int) ∧ vl = .slice A2 n2 c2 ∧ n ≤ j + g ∧ j ≤ n ∧ Hid (RwI w wr ds j A2 n2 c2))
  case atStart => exact ⟨0, none, 0, 0, rfl, rfl, by omega, by omega, OwnA.nil_ _ _ _ _, Below.refl _ _, fun k hk => by cases hk⟩
  case round =>
    obtain ⟨j, A2, n2, c2, rfl, rfl, hg, hjn, hP⟩ := hrel
    by_cases hlt : j < n
    · have hx : ds[j]? = some ds[j] := List.getElem?_eq_getElem (by rw [← hn.out]; exact hlt)
      obtain ⟨bb, off, rfl, hbb, hc⟩ := (HL.out.below hP.out.be).at_ hx
      have c0 := hc 0 _ rfl
      clear hc
      simp only [Nat.mul_one, Nat.add_zero] at c0
      have HX := Lib.hid hx
      have b0 : (0 : Int) ≤ (j : Int) := Int.natCast_nonneg _
      have b2 : (j : Int) < (n : Int) := by omega
      have b3 : decide (j < n) = true := decide_eq_true hlt
      have h1 : Hid ((rowL (ds.take j) 0).length + ([⟨(j : Int), 0, ds[j], 0, 0, 0, 0, ⟨#[]⟩⟩] : List Fr).length ≤ maxLen) := by rw [Hid, rowL_len, List.length_take]; simp [maxLen]; omega
      have h2 : Hid (((rowL (ds.take j) 0).length + ([⟨(j : Int), 0, ds[j], 0, 0, 0, 0, ⟨#[]⟩⟩] : List Fr).length) * 72 ≤ 140737488355328) := by rw [Hid, rowL_len, List.length_take]; simp; omega
      clear hx
      generalize ds[j] = d at *
      go_wp2_with (at_builtin; refine wpList_append_a _ rfl _ _ _ rfl 65 i0 _ 8 72 Try.underlying60 hi hz hz1 hz2 rfl (by decide) Fr.cells_len Fr.cells_one _ (rowL (ds.take j) 0) (by rfl) (hP.out.own.alloc _) _ (some ⟨wr.heap.size, 0, none⟩) ([⟨(j : Int), 0, d, 0, 0, 0, 0, ⟨#[]⟩⟩] : List Fr) 1 1 (by rfl) rfl (lit_list wr ([⟨(j : Int), 0, d, 0, 0, 0, 0, ⟨#[]⟩⟩] : List Fr) 65 Fr.cells_len) h1.out h2.out ?_; intro v' w5 hown' hchg hat; obtain ⟨A5, n5, c5, rfl, hn5, hle5, hmx5, hnil5⟩ := hown'.form; have HN := Lib.hid (hP.out.next HX.out hown' hchg hat); clear hown' hchg hat)
      go_roundg (gk - 1)
      case measure => omega
      case rel => exact ⟨j + 1, A5, n5, c5, by go_num, rfl, by omega, by omega, HN⟩
    · have b2 : ¬ (j : Int) < (n : Int) := by omega
      have b3 : decide (j < n) = false := decide_eq_false hlt
      go_wp2
      go_ret
      have h := hP.out.own
      rw [List.take_of_length_le (by rw [← hn.out]; omega)] at h
      exact ⟨hP.out.be, A2, n2, c2, rfl, h, hP.out.fr⟩
theorem row_lit (ds : List Int) (w : World) (hm : ds.length ≤ 100) : Calls Try.prog 70 #[.slice (some ⟨w.heap.size, 0, none⟩) ds.length ds.length] (w.alloc (.cells (ds.flatMap encI).toArray 3)) (RetFr w (rowL ds 0)) := by
  refine (row_any ds _ _ _ (w.alloc (.cells (ds.flatMap encI).toArray 3)) (lit_list w ds 3 encI_len) rfl hm).mono ?_
  rintro e w' ⟨hb, A, n, c, rfl, ho, hf⟩
  exact ⟨(below_1 w _).trans (hb.mono (by simp)), A, n, c, rfl, ho, fun k hk => by have := hf k hk; rw [World.size_alloc] at this; omega⟩

theorem chk_v (l : List Fr) (A : Option Addr) (n cap : Nat) (w : World) (v : Int) (hl : FrSl w w.heap.size A l) (hw : FrsWf l) (hn : Hid (n = l.length)) (hv : chk l = v) : Calls Try.prog 41 #[.slice A n cap] w fun e w' => e = .returned (.int .i64 v) ∧ Below w.heap.size w w' := by
  subst hv; exact check_any l A n cap w hl hw hn
theorem par_v (l : List Fr) (A : Option Addr) (n cap : Nat) (i : Int) (w : World) (v : Int) (hl : FrSl w w.heap.size A l) (hw : FrsWf l) (hn : Hid (n = l.length)) (hv : parentOf l i = v) : Calls Try.prog 42 #[.slice A n cap, .int .i64 i] w fun e w' => e = .returned (.int .i64 v) ∧ Below w.heap.size w w' := by
  subst hv; exact parent_any l A n cap i w hl hw hn
theorem end_v (l : List Fr) (A : Option Addr) (n cap : Nat) (i : Int) (w : World) (v : Int) (hl : FrSl w w.heap.size A l) (hw : FrsWf l) (hn : Hid (n = l.length)) (h63 : n ≤ maxLen) (hv : endOf l i = v) : Calls Try.prog 43 #[.slice A n cap, .int .i64 i] w fun e w' => e = .returned (.int .i64 v) ∧ Below w.heap.size w w' := by
  subst hv; exact end_any l A n cap i w hl hw hn h63
theorem print_v (l : List Fr) (A : Option Addr) (n cap : Nat) (w : World) (v : List UInt8 × Int) (hl : FrSl w w.heap.size A l) (hw : FrsWf l) (hn : Hid (n = l.length)) (h63 : n ≤ 100000000) (hv : printF l = v) : Calls Try.prog 44 #[.slice A n cap] w (RetPut w v) := by
  subst hv; exact fprint_any l A n cap w hl hw hn h63
def wfB (f : Fr) : Bool := (Lit.int .i64 f.node).wf && (Lit.int .i64 f.part).wf && (Lit.int .i64 f.depth).wf && (Lit.int .i64 f.x).wf && (Lit.int .i64 f.y).wf && (Lit.int .i64 f.w).wf && (Lit.int .i64 f.h).wf && decide (f.text.size ≤ 140737488355328)
theorem wf_of (l : List Fr) (h : l.all wfB = true) : FrsWf l := by
  intro f hf
  have h1 := List.all_eq_true.1 h f hf
  simp only [wfB, Bool.and_eq_true, decide_eq_true_eq] at h1
  obtain ⟨⟨⟨⟨⟨⟨⟨h1, h2⟩, h3⟩, h4⟩, h5⟩, h6⟩, h7⟩, h8⟩ := h1
  exact ⟨h1, h2, h3, h4, h5, h6, h7, h8⟩
def tA : List Fr := rowL [0, 1, 2, 1] 0
def fA : Fr := ⟨1, 0, 0, 0, 0, 2, 0, ⟨#[97]⟩⟩
/-- what awake keeps -/
structure AwF (w W : World) (A : Option Addr) (n : Nat) : Prop where
  sl : FrSl W W.heap.size A tA
  n : n = 4
  be : Below w.heap.size w W
theorem AwF.ext {w W W' : World} {A : Option Addr} {n : Nat} (h : AwF w W A n) (hb : Below W.heap.size W W') : AwF w W' A n := ⟨h.sl.ext hb, h.n, ext_under h.be (Nat.le_refl _) hb⟩
def tW : List Fr := [⟨0, 0, 0, 0, 0, 0, 0, ⟨#[]⟩⟩, ⟨0, 0, 1, 0, 0, 0, 0, ⟨#[]⟩⟩]
structure AwK (w W : World) (A : Option Addr) (n : Nat) (B : Option Addr) (g off : Nat) : Prop where
  a : AwF w W A n
  b : BySl W W.heap.size B [1, 1, 0, 0, 0, 0, 4, 0, 1, 97]
  t : FrSl W W.heap.size (some ⟨g, off, none⟩) tW
theorem AwK.ext {w W W' : World} {A : Option Addr} {n : Nat} {B : Option Addr} {g off : Nat} (h : AwK w W A n B g off) (hb : Below W.heap.size W W') : AwK w W' A n B g off := ⟨h.a.ext hb, h.b.ext hb, h.t.ext hb⟩
theorem frA_lit (w : World) : FrSl (w.alloc (.cells #[.int .i64 1, .int .i64 0, .int .i64 0, .int .i64 0, .int .i64 0, .int .i64 2, .int .i64 0, .string ⟨#[97]⟩] 65)) (w.alloc (.cells #[.int .i64 1, .int .i64 0, .int .i64 0, .int .i64 0, .int .i64 0, .int .i64 2, .int .i64 0, .string ⟨#[97]⟩] 65)).heap.size (some ⟨w.heap.size, 0, none⟩) [fA] := lit_list w [fA] 65 Fr.cells_len
theorem same_10 (W : World) (B : Option Addr) (m d : Nat) (hb : BySl W W.heap.size B [1, 1, 0, 0, 0, 0, 4, 0, 1, 97]) (hm : m = 10) :
    Calls Try.prog 20 #[.slice B m d, .slice (some ⟨W.heap.size, 0, none⟩) 10 10] (W.alloc (.cells #[.int .u8 1, .int .u8 1, .int .u8 0, .int .u8 0, .int .u8 0, .int .u8 0, .int .u8 4, .int .u8 0, .int .u8 1, .int .u8 97] 5)) fun e w' => e = .returned (.bool true) ∧ ∃ k, w' = (W.alloc (.cells #[.int .u8 1, .int .u8 1, .int .u8 0, .int .u8 0, .int .u8 0, .int .u8 0, .int .u8 4, .int .u8 0, .int .u8 1, .int .u8 97] 5)).drewN k := by
  have h := same_at [1, 1, 0, 0, 0, 0, 4, 0, 1, 97] [1, 1, 0, 0, 0, 0, 4, 0, 1, 97] B (some ⟨W.heap.size, 0, none⟩) m 10 d 10 (W.alloc (.cells #[.int .u8 1, .int .u8 1, .int .u8 0, .int .u8 0, .int .u8 0, .int .u8 0, .int .u8 4, .int .u8 0, .int .u8 1, .int .u8 97] 5)) (hb.ext (below_1 _ _)) (lit_list W [1, 1, 0, 0, 0, 0, 4, 0, 1, 97] 5 encB_len) hm rfl (by rw [hm]; decide) (by decide)
  rwa [Bytes.eqB_self] at h
set_option maxHeartbeats 4000000 in
set_option maxRecDepth 100000 in
theorem awake20_any (w : World) : Calls Try.prog 39 #[] w fun e w' => e = .returned (.bool true) ∧ Below w.heap.size w w' := by
  go_enter Try.func39, Try.ntmps39
  go_wp2_with fail
  refine (row_lit [0, 1, 2, 1] w (by decide)).mono ?_
  rintro e w1 ⟨hb, A, n, c, rfl, ho, hf⟩
  have T1 : Hid (AwF w w1 A n) := ⟨ho.sl Fr.cells_len, ho.len, hb⟩
  clear hb ho hf
  go_wp2_with fail
  refine (chk_v [] none 0 0 w1 200 (Sl.nil _ _ _ _ _) (wf_of _ rfl) rfl rfl).mono ?_
  rintro e w2 ⟨rfl, hb⟩
  have T2 := Lib.hid (T1.out.ext hb)
  clear hb
  go_wp2_with fail; refine (row_lit [0] w2 (by decide)).mono ?_; rintro e w3 ⟨hb, A3, n3, c3, rfl, ho, hf⟩; have T3 := Lib.hid (T2.out.ext hb); have HO3 := Lib.hid ho; have hn3 : Hid (n3 = List.length [0]) := ho.len; clear hb ho hf
  go_wp2_with fail; refine (chk_v (rowL [0] 0) A3 n3 c3 w3 0 (HO3.out.sl Fr.cells_len) (wf_of _ (by kernel_rfl)) hn3 (by kernel_rfl)).mono ?_; rintro e w4 ⟨rfl, hb⟩; have T4 := Lib.hid (T3.out.ext hb); clear hb HO3 hn3
  go_wp2_with fail
  refine (chk_v tA A n c w4 0 T4.out.sl (wf_of _ (by kernel_rfl)) T4.out.n (by kernel_rfl)).mono ?_
  rintro e w5 ⟨rfl, hb⟩
  have T5 := Lib.hid (T4.out.ext hb)
  clear hb
  go_wp2_with fail; refine (row_lit [0, 2] w5 (by decide)).mono ?_; rintro e w6 ⟨hb, A6, n6, c6, rfl, ho, hf⟩; have T6 := Lib.hid (T5.out.ext hb); have HO6 := Lib.hid ho; have hn6 : Hid (n6 = List.length [0, 2]) := ho.len; clear hb ho hf
  go_wp2_with fail; refine (chk_v (rowL [0, 2] 0) A6 n6 c6 w6 200 (HO6.out.sl Fr.cells_len) (wf_of _ (by kernel_rfl)) hn6 (by kernel_rfl)).mono ?_; rintro e w7 ⟨rfl, hb⟩; have T7 := Lib.hid (T6.out.ext hb); clear hb HO6 hn6
  go_wp2_with fail; refine (row_lit [0, 1, 0] w7 (by decide)).mono ?_; rintro e w8 ⟨hb, A8, n8, c8, rfl, ho, hf⟩; have T8 := Lib.hid (T7.out.ext hb); have HO8 := Lib.hid ho; have hn8 : Hid (n8 = List.length [0, 1, 0]) := ho.len; clear hb ho hf
  go_wp2_with fail; refine (chk_v (rowL [0, 1, 0] 0) A8 n8 c8 w8 200 (HO8.out.sl Fr.cells_len) (wf_of _ (by kernel_rfl)) hn8 (by kernel_rfl)).mono ?_; rintro e w9 ⟨rfl, hb⟩; have T9 := Lib.hid (T8.out.ext hb); clear hb HO8 hn8
  go_wp2_with fail
  refine (print_v [fA] _ _ _ _ ([1, 1, 0, 0, 0, 0, 4, 0, 1, 97], 0) (frA_lit w9) (wf_of _ (by kernel_rfl)) rfl (by decide) (by kernel_rfl)).mono ?_
  rintro e w10 ⟨hb, B, m, d, rfl, ho, hf⟩
  have TA : Hid (AwF w w10 A n ∧ BySl w10 w10.heap.size B [1, 1, 0, 0, 0, 0, 4, 0, 1, 97] ∧ m = 10) := ⟨T9.out.ext ((below_1 w9 _).trans (hb.mono (by simp))), ho.sl encB_len, ho.len⟩
  clear hb ho hf
  go_wp2_with fail
  refine (row_lit [0, 1] w10 (by decide)).mono ?_
  rintro e w11 ⟨hb, C, k, q, rfl, ho, hf⟩
  have HC := Lib.hid (And.intro ho (And.intro hf hb))
  have TB : Hid (AwF w w11 A n ∧ BySl w11 w11.heap.size B [1, 1, 0, 0, 0, 0, 4, 0, 1, 97] ∧ m = 10) := ⟨TA.out.1.ext hb, TA.out.2.1.ext hb, TA.out.2.2⟩
  have hk : Hid (k = 2) := ho.len
  obtain ⟨g, off, rfl⟩ := Sl.some_of (ho.sl Fr.cells_len) (by simp [rowL])
  have hgk : w10.heap.size ≤ g := hf g rfl
  obtain ⟨off', cap', cur, hv, hrow, hle1, hle2, hle3, hcur⟩ := ho.row (g := g) rfl
  have hoff : off = off' := by injection hv with h; injection h with h; injection h
  subst hoff
  have hkk := hk.out
  subst hkk
  have hst := Lib.hid (OwnA.store Fr.cells_len ho (k := 1) (j := 0) (x := ⟨1, 0, 1, 0, 0, 0, 0, ⟨#[]⟩⟩) (x' := ⟨0, 0, 1, 0, 0, 0, 0, ⟨#[]⟩⟩) (u := .int .i64 0) rfl (by decide) rfl)
  have hcell := (ho.sl Fr.cells_len).at_ (k := 1) (x := ⟨1, 0, 1, 0, 0, 0, 0, ⟨#[]⟩⟩) rfl
  obtain ⟨g2, off2, hA2, hlt2, hc2⟩ := hcell
  obtain ⟨rfl, rfl⟩ : g = g2 ∧ off = off2 := by injection hA2 with h; injection h with h1 h2; exact ⟨h1, h2⟩
  have c0 := hc2 0 _ rfl
  have f0 : w11.frozen? ⟨g, off + 1 * 8 + 0, none⟩ = false := frozen_of_row w11 g _ cur _ hrow
  clear hA2 hc2 hv hrow hcur ho hf hb hle1 hle2 hle3
  simp only [Nat.one_mul, Nat.add_zero] at c0 f0
  have TC : Hid ((AwF w (w11.setCell ⟨g, off + 8, none⟩ (.int .i64 0)) A n ∧ BySl (w11.setCell ⟨g, off + 8, none⟩ (.int .i64 0)) (w11.setCell ⟨g, off + 8, none⟩ (.int .i64 0)).heap.size B [1, 1, 0, 0, 0, 0, 4, 0, 1, 97]) ∧ m = 10 ∧ FrSl (w11.setCell ⟨g, off + 8, none⟩ (.int .i64 0)) (w11.setCell ⟨g, off + 8, none⟩ (.int .i64 0)).heap.size (some ⟨g, off, none⟩) tW) := by
    have hbe : Below w10.heap.size w10 (w11.setCell ⟨g, off + 8, none⟩ (.int .i64 0)) := HC.out.2.2.setCell hgk _
    exact ⟨⟨TA.out.1.ext hbe, TA.out.2.1.ext hbe⟩, TA.out.2.2, OwnA.sl Fr.cells_len hst.out⟩
  clear hst HC TB hk hgk
  go_wp2_with fail
  generalize w11.setCell ⟨g, off + 8, none⟩ (.int .i64 0) = W12 at *
  have T12 : Hid (AwK w W12 A n B g off) := ⟨TC.out.1.1, TC.out.1.2, TC.out.2.2⟩
  have hm10 : Hid (m = 10) := TC.out.2.1
  clear TC
  refine (par_v tA A n c 3 W12 0 T12.out.a.sl (wf_of _ (by kernel_rfl)) T12.out.a.n (by kernel_rfl)).mono ?_; rintro e w13 ⟨rfl, hb⟩; have T13 := Lib.hid (T12.out.ext hb); clear hb; go_wp2_with fail
  refine (par_v tA A n c 2 w13 1 T13.out.a.sl (wf_of _ (by kernel_rfl)) T13.out.a.n (by kernel_rfl)).mono ?_; rintro e w14 ⟨rfl, hb⟩; have T14 := Lib.hid (T13.out.ext hb); clear hb; go_wp2_with fail
  refine (par_v tA A n c 0 w14 (-1) T14.out.a.sl (wf_of _ (by kernel_rfl)) T14.out.a.n (by kernel_rfl)).mono ?_; rintro e w15 ⟨rfl, hb⟩; have T15 := Lib.hid (T14.out.ext hb); clear hb; go_wp2_with fail
  refine (par_v tA A n c 4 w15 (-1) T15.out.a.sl (wf_of _ (by kernel_rfl)) T15.out.a.n (by kernel_rfl)).mono ?_; rintro e w16 ⟨rfl, hb⟩; have T16 := Lib.hid (T15.out.ext hb); clear hb; go_wp2_with fail
  refine (end_v tA A n c 0 w16 4 T16.out.a.sl (wf_of _ (by kernel_rfl)) T16.out.a.n (by rw [T16.out.a.n]; decide) (by kernel_rfl)).mono ?_; rintro e w17 ⟨rfl, hb⟩; have T17 := Lib.hid (T16.out.ext hb); clear hb; go_wp2_with fail
  refine (end_v tA A n c 1 w17 3 T17.out.a.sl (wf_of _ (by kernel_rfl)) T17.out.a.n (by rw [T17.out.a.n]; decide) (by kernel_rfl)).mono ?_; rintro e w18 ⟨rfl, hb⟩; have T18 := Lib.hid (T17.out.ext hb); clear hb; go_wp2_with fail
  refine (end_v tA A n c 2 w18 3 T18.out.a.sl (wf_of _ (by kernel_rfl)) T18.out.a.n (by rw [T18.out.a.n]; decide) (by kernel_rfl)).mono ?_; rintro e w19 ⟨rfl, hb⟩; have T19 := Lib.hid (T18.out.ext hb); clear hb; go_wp2_with fail
  refine (same_10 w19 B m d T19.out.b hm10.out).mono ?_
  rintro e w20 ⟨rfl, k20, rfl⟩
  have T20 : Hid (AwK w _ A n B g off) := T19.out.ext (bdrewN (below_1 w19 (.cells #[.int .u8 1, .int .u8 1, .int .u8 0, .int .u8 0, .int .u8 0, .int .u8 0, .int .u8 4, .int .u8 0, .int .u8 1, .int .u8 97] 5)) k20)
  go_wp2_with fail
  refine (chk_v tW _ 2 q _ 200 T20.out.t (wf_of _ (by kernel_rfl)) rfl (by kernel_rfl)).mono ?_
  rintro e w21 ⟨rfl, hb⟩
  go_wp2
  go_ret
  exact ⟨rfl, ext_under T20.out.a.be (Nat.le_refl _) hb⟩
end Go.Proofs.Ytoneechcclndaaa.FForm
