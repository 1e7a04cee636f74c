/- wire: the program's kinds, the search among them. -/
import Derived.Test.YtiommdidkhohgaaWireD
import Derived.Outline
import Derived.BigQuiet
import Derived.Deep.QuietTactic
import Derived.Deep.RegionWith
import Derived.Deep.RegionHeld3
import Derived.Deep.DrawnRows
import Derived.Deep.LoopGhost
import Derived.Deep.DeepCutAuto
import Derived.Laws.EntriesVeiled
namespace Go.Proofs.Ytiommdidkhohgaa.Wire
open Go.RowKit Go.ChangeShapes Go.WideShapes Go.ChangeAt
set_option linter.unusedVariables false
set_option linter.unusedSimpArgs false
attribute [local go_sem ↓] Go.wp_at_zero Go.wp_at_succ
open Go.Shelf Go.Proofs.Ytiommdidkhohgaa.Word

def fnV (f : Nat) : Value := .func (.func f) #[] #[]
def Kd.put : Kd → Nat
  | .nat => 67
  | .int => 70
  | .flag => 73
  | .bytes => 75
  | .row => 78
def Kd.take : Kd → Nat
  | .nat => 69
  | .int => 72
  | .flag => 74
  | .bytes => 77
  | .row => 80
def Kd.cells (k : Kd) : List Value := [.int .u8 (k.byte : Int), fnV k.put, fnV k.take]
theorem Kd.cells_len (k : Kd) : k.cells.length = 3 := rfl
theorem Kd.cells_one (k : Kd) : ∀ u ∈ k.cells, u.oneCell' = true := by simp [Kd.cells, Value.oneCell', fnV]
def allK : List Kd := [.nat, .int, .flag, .bytes, .row]
def Kd.agg (k : Kd) : Value := .agg #[.int .u8 (k.byte : Int), fnV k.put, fnV k.take]
def allV : Array Value := #[.int .u8 110, fnV 67, fnV 69, .int .u8 105, fnV 70, fnV 72, .int .u8 102, fnV 73, fnV 74, .int .u8 98, fnV 75, fnV 77, .int .u8 108, fnV 78, fnV 80]

theorem kinds_any (w : World) : Calls Try.prog 58 #[] w fun e w' => e = .returned (.agg allV) ∧ Below w.heap.size w w' := by
  go_enter Try.func58, Try.ntmps58
  go_wp2
  refine bodyPost_ret (v := .agg allV) ?_ rfl ⟨rfl, (by repeat (first | exact Below.refl _ _ | assumption | refine Below.drew ?_ | refine bdrewN ?_ _ | refine Below.alloc ?_ (by simp; try omega) _ | refine Below.setCell ?_ (by simp; try omega) _))⟩
  simp [results, Try.results58, go_sem, allV, fnV]

theorem Kd.at_ {w : World} {B : Nat} {A : Option Addr} {ks : List Kd} (h : Sl w B 3 Kd.cells A ks) {j : Nat} {k : Kd} (hx : ks[j]? = some k) :
    ∃ b off, A = some ⟨b, off, none⟩ ∧ b < B ∧ w.cell? ⟨b, off + j * 3, none⟩ = some (.int .u8 (k.byte : Int)) ∧ w.cell? ⟨b, off + j * 3 + 1, none⟩ = some (fnV k.put) ∧ w.cell? ⟨b, off + j * 3 + 2, none⟩ = some (fnV k.take) := by
  obtain ⟨b, off, hA, hb, hc⟩ := h.at_ hx
  exact ⟨b, off, hA, hb, hc 0 _ rfl, hc 1 _ rfl, hc 2 _ rfl⟩

theorem isk_any (k : Kd) (x : UInt8) (b : Nat) (w : World) (hb : w.cell? ⟨b, 0, none⟩ = some (.int .u8 (x.toNat : Int))) :
    Calls Try.prog 60 #[k.agg, .pointer (some ⟨b, 0, none⟩)] w fun e w' => e = .returned (.bool (k.byte == x.toNat)) ∧ Below w.heap.size w w' := by
  have hlt : b < w.heap.size := World.block_lt_of_cell? w ⟨b, 0, none⟩ hb
  have hne : b ≠ w.heap.size := by omega
  have h1 : ∀ o, (w.alloc o).cell? ⟨b, 0, none⟩ = some (.int .u8 (x.toNat : Int)) := fun o => (World.cell?_alloc_lt w o ⟨b, 0, none⟩ hlt).trans hb
  have h2 : ((k.byte : Int) == (x.toNat : Int)) = (k.byte == x.toNat) := by rw [Bool.eq_iff_iff]; simp; omega
  unfold Kd.agg fnV
  generalize k.byte = y at *
  have H2 := Lib.hid h2
  clear h2
  go_enter Try.func60, Try.ntmps60
  go_wp2
  go_ret
  exact ⟨ret_bool H2.out, (by repeat (first | exact Below.refl _ _ | assumption | refine Below.drew ?_ | refine bdrewN ?_ _ | refine Below.alloc ?_ (by simp; try omega) _ | refine Below.setCell ?_ (by simp; try omega) _))⟩

/-- where the letter stands among kinds -/
def kixF (x : Nat) : List Kd → Nat → Int
  | [], _ => -1
  | k :: ks, j => if k.byte = x then (j : Int) else kixF x ks (j + 1)
theorem kindIx_any (x : UInt8) (ks : List Kd) (A : Option Addr) (n cap b : Nat) (w : World) (hl : Sl w w.heap.size 3 Kd.cells A ks) (hn : Hid (n = ks.length)) (hm : n ≤ 1000000) (hb : w.cell? ⟨b, 0, none⟩ = some (.int .u8 (x.toNat : Int))) :
    Calls Try.prog 59 #[.slice A n cap, .func (.func 60) #[] #[.pointer (some ⟨b, 0, none⟩)]] w fun e w' => e = .returned (.int .i64 (kixF x.toNat ks 0)) ∧ Below w.heap.size w w' := by
  have HH := Lib.hid (And.intro hl hb)
  clear hl hb
  go_enter Try.func59, Try.ntmps59
  go_wp2
  go_loopg [8] n (fun g vj wr => ∃ j : Nat, vj = .int .i64 (j : Int) ∧ n ≤ j + g ∧ j ≤ n ∧ Hid (kixF x.toNat ks 0 = kixF x.toNat (ks.drop j) j) ∧ Hid (Below w.heap.size w wr))
  case atStart => exact ⟨0, rfl, by omega, by omega, rfl, Below.refl _ _⟩
  case round =>
    obtain ⟨j, rfl, hg, hjn, hj, hB⟩ := hrel
    by_cases hlt : j < n
    · have hx : ks[j]? = some ks[j] := List.getElem?_eq_getElem (by rw [← hn.out]; omega)
      have Hd := Lib.hid (List.drop_eq_getElem_cons (show j < ks.length by rw [← hn.out]; omega))
      have hl2 := (HH.out.1).ext hB.out
      obtain ⟨bb, off, rfl, hbb, c0, c1, c2⟩ := Kd.at_ hl2 hx
      have hb2 : wr.cell? ⟨b, 0, none⟩ = some (.int .u8 (x.toNat : Int)) := (hB.out.cell (World.block_lt_of_cell? w ⟨b, 0, none⟩ HH.out.2)).trans HH.out.2
      have HB2 := Lib.hid hb2
      generalize ks[j] = k at *
      have b0 : (0 : Int) ≤ (j : Int) := Int.natCast_nonneg _
      have b1 : (j : Int) < (n : Int) := by omega
      clear hx hb2 hl2
      unfold fnV at c1 c2
      by_cases hk : k.byte = x.toNat
      · have hc := isk_any k x b wr HB2.out
        rw [show (k.byte == x.toNat) = true from by simpa using hk] at hc
        unfold Kd.agg fnV at hc
        have HC := Lib.hid hc
        have HF : Hid (kixF x.toNat ks 0 = (j : Int)) := by rw [Hid, hj.out, Hd.out, kixF, if_pos hk]
        clear hc hk
        go_wp2_with (go_at_call 60; refine HC.out.mono ?_; rintro e w' ⟨rfl, hb'⟩)
        go_ret
        exact ⟨ret_k HF.out.symm, ext_under hB.out (Nat.le_refl _) hb'⟩
      · have hc := isk_any k x b wr HB2.out
        rw [show (k.byte == x.toNat) = false from by simpa using hk] at hc
        unfold Kd.agg fnV at hc
        have HC := Lib.hid hc
        have HF : Hid (kixF x.toNat ks 0 = kixF x.toNat (ks.drop (j + 1)) (j + 1)) := by rw [Hid, hj.out, Hd.out, kixF, if_neg hk]
        clear hc hk
        go_wp2_with (go_at_call 60; refine HC.out.mono ?_; rintro e w' ⟨rfl, hb'⟩)
        go_roundg (gk - 1)
        case measure => omega
        case rel => exact ⟨j + 1, by go_num, by omega, by omega, HF.out, ext_under hB.out (Nat.le_refl _) hb'⟩
    · have e : Hid (kixF x.toNat ks 0 = -1) := by rw [Hid, hj.out, List.drop_of_length_le (by rw [← hn.out]; omega)]; rfl
      have b1 : ¬ (j : Int) < (n : Int) := by omega
      go_wp2
      go_ret
      exact ⟨ret_k e.out.symm, hB.out⟩
end Go.Proofs.Ytiommdidkhohgaa.Wire
