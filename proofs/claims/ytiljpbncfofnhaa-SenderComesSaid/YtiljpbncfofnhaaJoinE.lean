/- chunk: Take of the program, whole; Taken, New. -/
import Derived.Test.YtiljpbncfofnhaaJoinC
import Derived.Outline
import Derived.BigQuiet
import Derived.Deep.QuietTactic
import Derived.Deep.RegionWith
import Derived.Deep.RegionHeld3
import Derived.Deep.DrawnRows
import Derived.Deep.LoopGhost
import Derived.Deep.DeepCutAuto
import Derived.Laws.EntriesVeiled
namespace Go.Proofs.Ytiljpbncfofnhaa.JoinE
open Go.RowKit Go.ChangeShapes Go.WideShapes Go.ChangeAt
set_option linter.unusedVariables false
set_option linter.unusedSimpArgs false
attribute [local go_sem ↓] Go.wp_at_zero Go.wp_at_succ
open JoinA JoinB JoinC

theorem take_all (w : World) (g : Nat) (base : Nat) (A : Option Addr) (na jc : Nat) (taken seq : Int) (acc bs : List UInt8) (last : Bool) (B : Option Addr) (nb cap : Nat) (hna : Hid (na = acc.length)) (hnb : Hid (nb = bs.length))
    (ht : 0 ≤ taken) (ht2 : taken ≤ 1000000) (ha : na ≤ 262144) (hnm : nb ≤ maxLen)
    (hb : Blk w g 108 (mkJ taken (.slice A na jc))) (hown : Own w base 5 1 encB (.slice A na jc) acc) (hsl : BySl w w.heap.size B bs) (hbase : base ≤ w.heap.size)
    (hsep : ∀ k, blockOf B = some k → k ≠ g) :
    Calls Try.prog 36 #[.pointer (some ⟨g, 0, none⟩), .int .i64 seq, .bool last, .slice B nb cap] w
      (TakePost w g 108 mkJ base (.slice A na jc) taken acc bs last (tkErr taken acc bs seq last)) := by
  by_cases h1 : seq = taken + 1
  · by_cases h2 : bs.length = 0 ∨ 48 < bs.length ∨ (bs.length < 48 ∧ last = false) ∨ 262144 < acc.length + bs.length
    · have he : tkErr taken acc bs seq last = some 230 := by rw [tkErr, if_neg (by simp [h1]), if_pos h2]
      rw [he]
      subst h1
      refine (take_size w g A B na jc nb cap taken last ht ht2 ha hnm hb (by rw [hna.out, hnb.out]; exact h2)).mono ?_
      rintro e w' ⟨rfl, rfl⟩
      exact take_err hb hown
    · have he : tkErr taken acc bs seq last = none := by rw [tkErr, if_neg (by simp [h1]), if_neg h2]
      rw [he]
      subst h1
      have e1 := hna.out
      have e2 := hnb.out
      exact take_ok w g base A na jc taken acc bs last B nb cap hna hnb ht ht2 (by omega) (by omega) (by omega) (fun h => by cases last <;> simp_all) hb hown hsl hbase hsep
  · have he : tkErr taken acc bs seq last = some 2 := by rw [tkErr, if_pos h1]
    rw [he]
    refine (take_seq w g _ _ taken seq last ht ht2 hb (by simpa using h1)).mono ?_
    rintro e w' ⟨rfl, rfl⟩
    exact take_err hb hown

theorem taken_made (w : World) (g : Nat) (taken : Int) (jb : Value) (hb : Blk w g 108 (mkJ taken jb)) :
    Calls Try.prog 37 #[.pointer (some ⟨g, 0, none⟩)] w fun e w' => e = .returned (.int .i64 taken) ∧ w = w' := by
  have c0 : w.cell? ⟨g, 0, none⟩ = some (.bool true) := hb.cell 0
  have c1 : w.cell? ⟨g, 1, none⟩ = some (.int .i64 taken) := hb.cell 1
  have hnone := Lib.hid (none_made g 0 w c0)
  clear hb
  go_enter Try.func37, Try.ntmps37
  go_wp2_with (go_at_call 73; refine (hnone.out).mono ?_; rintro e w' ⟨rfl, rfl⟩)
  go_ret
  exact ⟨rfl, rfl⟩

theorem new_any (w : World) : Calls Try.prog 33 #[] w fun e w' => e = .returned (.pointer (some ⟨w.heap.size, 0, none⟩)) ∧ w.alloc (.cells (mkJ 0 (.slice none 0 0)) 108) = w' := by
  go_enter Try.func33, Try.ntmps33
  go_wp2
  go_ret
  exact ⟨rfl, rfl⟩

end Go.Proofs.Ytiljpbncfofnhaa.JoinE
