/- law 04: awake. -/
import Derived.Test.YtoneechcclndaaaPe
import Derived.Outline
import Derived.BigQuiet
import Derived.Deep.QuietTactic
import Derived.Deep.RegionWith
import Derived.Deep.RegionHeld3
import Derived.Deep.DrawnRows
import Derived.Deep.LoopGhost
import Derived.Deep.DeepCutAuto
import Derived.Laws.EntriesVeiled
namespace Go.Proofs.Ytoneechcclndaaa.Wire
open Go.RowKit Go.ChangeShapes Go.WideShapes Go.ChangeAt
set_option linter.unusedVariables false
set_option linter.unusedSimpArgs false
attribute [local go_sem ↓] Go.wp_at_zero Go.wp_at_succ
open Go.Shelf Go.Proofs.Ytoneechcclndaaa.Word

theorem put_lit (rs : List Wr) (s : ByteArray) (x : List UInt8 × Int) (w : World) (hs : s.data.toList.length ≤ 1000000) (hx : putP s.data.toList (rs.map Wr.v) = x) (hrd : ∀ r ∈ rs, r.Rd w) (hl : rs.length ≤ 1000000) :
    Calls Try.prog 18 #[.string s, .slice (some ⟨w.heap.size, 0, none⟩) rs.length rs.length] (w.alloc (.cells (rs.flatMap Wr.cells).toArray 38)) (RetPut (w.alloc (.cells (rs.flatMap Wr.cells).toArray 38)) x) := by
  have h := put_any' s rs (some ⟨w.heap.size, 0, none⟩) rs.length rs.length (w.alloc (.cells (rs.flatMap Wr.cells).toArray 38)) hs ⟨lit_list w rs 38 Wr.cells_len, rfl, fun r hr => (hrd r hr).ext (below_1 _ _), hl⟩
  rwa [hx] at h
theorem put_lit' (rs : List Wr) (s : ByteArray) (x : List UInt8 × Int) (w : World) (g : Nat) (hg : w.heap.size = g) (hs : s.data.toList.length ≤ 1000000) (hx : putP s.data.toList (rs.map Wr.v) = x) (hrd : ∀ r ∈ rs, r.Rd w) (hl : rs.length ≤ 1000000) :
    Calls Try.prog 18 #[.string s, .slice (some ⟨g, 0, none⟩) rs.length rs.length] (w.alloc (.cells (rs.flatMap Wr.cells).toArray 38)) (RetPut (w.alloc (.cells (rs.flatMap Wr.cells).toArray 38)) x) := by
  subst hg
  exact put_lit rs s x w hs hx hrd hl
theorem put_nil (s : ByteArray) (x : List UInt8 × Int) (w : World) (hs : s.data.toList.length ≤ 1000000) (hx : putP s.data.toList [] = x) : Calls Try.prog 18 #[.string s, .slice none 0 0] w (RetPut w x) := by
  have h := put_any' s [] none 0 0 w hs ⟨Sl.nil _ _ _ _ _, rfl, by simp, by decide⟩
  rwa [show ([] : List Wr).map Wr.v = [] from rfl, hx] at h
theorem take_lit (s : ByteArray) (l : List UInt8) (x : List WV × Nat × Int) (w : World) (hs : s.data.toList.length ≤ 1000000) (hx : takeP s.data.toList l = x) (hl : l.length ≤ 1000000) :
    Calls Try.prog 24 #[.string s, .slice (some ⟨w.heap.size, 0, none⟩) l.length l.length] (w.alloc (.cells (l.flatMap encB).toArray 5)) (RetTake (w.alloc (.cells (l.flatMap encB).toArray 5)) x) := by
  have h := take_any s l (some ⟨w.heap.size, 0, none⟩) l.length l.length (w.alloc (.cells (l.flatMap encB).toArray 5)) hs (lit_list w l 5 encB_len) rfl (Nat.le_refl _) (by omega)
  rwa [hx] at h
theorem whole_lit (s : ByteArray) (l : List UInt8) (x : List WV × Int) (w : World) (hs : s.data.toList.length ≤ 1000000) (hx : wholeP s.data.toList l = x) (hl : l.length ≤ 1000000) :
    Calls Try.prog 26 #[.string s, .slice (some ⟨w.heap.size, 0, none⟩) l.length l.length] (w.alloc (.cells (l.flatMap encB).toArray 5)) (RetWhole (w.alloc (.cells (l.flatMap encB).toArray 5)) x) := by
  have h := whole_any s l (some ⟨w.heap.size, 0, none⟩) l.length l.length (w.alloc (.cells (l.flatMap encB).toArray 5)) hs (lit_list w l 5 encB_len) rfl (Nat.le_refl _) (by omega)
  rwa [hx] at h
theorem take_nil (s : ByteArray) (x : List WV × Nat × Int) (w : World) (hs : s.data.toList.length ≤ 1000000) (hx : takeP s.data.toList [] = x) : Calls Try.prog 24 #[.string s, .slice none 0 0] w (RetTake w x) := by
  have h := take_any s [] none 0 0 w hs (Sl.nil _ _ _ _ _) rfl (Nat.le_refl _) (by decide)
  rwa [hx] at h
theorem same_lit (l : List UInt8) (A : Option Addr) (n c : Nat) (w : World) (h : OwnA w 5 1 encB (.slice A n c) l) (hl : l.length ≤ 1000000) :
    Calls Try.prog 20 #[.slice A n c, .slice (some ⟨w.heap.size, 0, none⟩) l.length l.length] (w.alloc (.cells (l.flatMap encB).toArray 5)) fun e w' => e = .returned (.bool true) ∧ ∃ k, w' = (w.alloc (.cells (l.flatMap encB).toArray 5)).drewN k := by
  have hn := h.len
  have h2 := same_at l l A (some ⟨w.heap.size, 0, none⟩) n l.length c l.length (w.alloc (.cells (l.flatMap encB).toArray 5)) ((h.ext (below_1 _ _)).sl encB_len) (lit_list w l 5 encB_len) hn rfl (by rw [hn]; unfold maxLen; omega) (by unfold maxLen; omega)
  rwa [Bytes.eqB_self] at h2

def mkN (n : Nat) : Wr := ⟨{ wv0 with n := n }, none, 0, 0, none, 0, 0⟩
def mkI (i : Int) : Wr := ⟨{ wv0 with i := i }, none, 0, 0, none, 0, 0⟩
def mkF (f : Bool) : Wr := ⟨{ wv0 with f := f }, none, 0, 0, none, 0, 0⟩
theorem mkN_rd (w : World) (n : Nat) (h : n < p64) : (mkN n).Rd w := ⟨Sl.nil _ _ _ _ _, rfl, Sl.nil _ _ _ _ _, rfl, h, wv0_wf.2⟩
theorem mkI_rd (w : World) (i : Int) (h1 : -9223372036854775808 ≤ i) (h2 : i ≤ 9223372036854775807) : (mkI i).Rd w := ⟨Sl.nil _ _ _ _ _, rfl, Sl.nil _ _ _ _ _, rfl, wv0_wf.1, h1, h2, wv0_wf.2.2.2⟩
theorem mkF_rd (w : World) (f : Bool) : (mkF f).Rd w := ⟨Sl.nil _ _ _ _ _, rfl, Sl.nil _ _ _ _ _, rfl, wv0_wf⟩
def mkB (b : List UInt8) (g : Nat) : Wr := ⟨{ wv0 with b := b }, some ⟨g, 0, none⟩, b.length, b.length, none, 0, 0⟩
def mkL (l : List Nat) (g : Nat) : Wr := ⟨{ wv0 with l := l }, none, 0, 0, some ⟨g, 0, none⟩, l.length, l.length⟩
theorem mkB_rd {w : World} {b : List UInt8} {g : Nat} (h : BySl w w.heap.size (some ⟨g, 0, none⟩) b) (hl : b.length ≤ 1000000) : (mkB b g).Rd w := ⟨h, rfl, Sl.nil _ _ _ _ _, rfl, wv0_wf.1, wv0_wf.2.1, wv0_wf.2.2.1, wv0_wf.2.2.2.1, hl, wv0_wf.2.2.2.2.2⟩
theorem mkL_rd {w : World} {l : List Nat} {g : Nat} (h : Sl w w.heap.size 1 encN (some ⟨g, 0, none⟩) l) (hl : l.length ≤ 1000000) (hp : ∀ x ∈ l, x < p64) : (mkL l g).Rd w := ⟨Sl.nil _ _ _ _ _, rfl, h, rfl, wv0_wf.1, wv0_wf.2.1, wv0_wf.2.2.1, hp, wv0_wf.2.2.2.2.1, hl⟩
theorem pl1 : putP [110, 105, 102] [(mkN 300).v, (mkI (-1)).v, (mkF true).v] = ([172, 2, 1, 1], 0) := by kernel_rfl
theorem pl2 (g h : Nat) : putP [98, 108] [(mkB [7, 8] g).v, (mkL [1, 300] h).v] = ([2, 7, 8, 2, 1, 172, 2], 0) := by kernel_rfl
theorem pl3 : putP [120] [] = ([], 2) := by kernel_rfl
theorem pl4 : putP [110] [] = ([], 2) := by kernel_rfl
theorem pl5 : putP [110] [(mkI 1).v] = ([], 2) := by kernel_rfl
theorem pl6 : takeP [102] [2] = ([], 0, 40) := by kernel_rfl
theorem pl7 : takeP [102] [] = ([], 0, 40) := by kernel_rfl
theorem pl8 : takeP [98] [2, 7] = ([], 0, 40) := by kernel_rfl
theorem pl9 : wholeP [110] [5, 6] = ([], 40) := by kernel_rfl
end Go.Proofs.Ytoneechcclndaaa.Wire
