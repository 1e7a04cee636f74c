/- bytes: the document's Same and Copy (windowpaneref02). -/
import Derived.Test.YtiljpbncfofnhaaRows
import Derived.Test.YtiljpbncfofnhaaHeap
import Derived.Outline
import Derived.BigQuiet
import Derived.Deep.QuietTactic
import Derived.Deep.RegionWith
import Derived.Deep.RegionHeld3
import Derived.Deep.DrawnRows
import Derived.Deep.LoopGhost
import Derived.Deep.DeepCutAuto
import Derived.Laws.EntriesVeiled
namespace Go.Proofs.Ytiljpbncfofnhaa.Bytes
open Go.RowKit Go.ChangeShapes Go.WideShapes Go.ChangeAt
set_option linter.unusedVariables false
set_option linter.unusedSimpArgs false
attribute [local go_sem ↓] Go.wp_at_zero Go.wp_at_succ

theorem byInfo : (Try.prog.info? 5).map (fun i => (i.zero, i.size, i.bytes)) = some (some (.int .u8 0), 1, 1) := by kernel_rfl

def eqB : List UInt8 → List UInt8 → Bool
  | [], [] => true
  | a :: l, b :: m => ((a.toNat : Int) == (b.toNat : Int)) && eqB l m
  | _, _ => false
theorem u8_eq (a b : UInt8) : (((a.toNat : Int) == (b.toNat : Int)) = true) ↔ a = b := by
  simp only [beq_iff_eq, Int.natCast_inj]
  exact UInt8.toNat_inj
theorem eqB_iff : ∀ l m : List UInt8, eqB l m = true ↔ l = m
  | [], [] => by simp [eqB]
  | a :: l, b :: m => by simp only [eqB, Bool.and_eq_true, u8_eq, eqB_iff l m, List.cons.injEq]
  | [], b :: m => by simp [eqB]
  | a :: l, [] => by simp [eqB]
theorem eqB_self (l : List UInt8) : eqB l l = true := (eqB_iff l l).2 rfl
theorem eqB_len {l m : List UInt8} (h : l.length ≠ m.length) : eqB l m = false := by
  cases he : eqB l m with
  | false => rfl
  | true => exact absurd (congrArg List.length ((eqB_iff l m).1 he)) h

/-- whether bytes are the same; nothing but draws turns the world -/
theorem same_any (l m : List UInt8) (A B : Option Addr) (ca cb : Nat) (w : World) (hl : BySl w w.heap.size A l) (hm : BySl w w.heap.size B m) (h63 : l.length ≤ maxLen) (h63' : m.length ≤ maxLen) :
    Calls Try.prog 19 #[.slice A l.length ca, .slice B m.length cb] w fun e w' => e = .returned (.bool (eqB l m)) ∧ ∃ n, w' = w.drewN n := by
  unfold maxLen at h63 h63'
  by_cases hn : l.length = m.length
  · have hn' : (!((l.length : Int) == (m.length : Int))) = false := by simp [hn]
    have hn2 : ((l.length : Int) == (m.length : Int)) = true := by simp [hn]
    have Hn := Lib.hid hn
    clear hn
    go_enter Try.func19, Try.ntmps19
    go_wp2
    go_loopg [5] l.length (fun g v wr => ∃ j : Nat, l.length ≤ j + g ∧ j ≤ l.length ∧ v = .int .i64 j ∧ Hid (eqB l m = eqB (l.drop j) (m.drop j)) ∧ Hid (∃ n, wr = w.drewN n))
    case atStart => exact ⟨0, by omega, by omega, rfl, rfl, 0, rfl⟩
    case round =>
      obtain ⟨j, hg, hj, rfl, hf, nn, rfl⟩ := hrel
      by_cases hlt : j < l.length
      · have hltm : j < m.length := by rw [← Hn.out]; exact hlt
        obtain ⟨bb, off, rfl, hbb, c0⟩ := BySl.at_ hl (List.getElem?_eq_getElem hlt)
        obtain ⟨bb', off', rfl, hbb', d0⟩ := BySl.at_ hm (List.getElem?_eq_getElem hltm)
        have Hd := Lib.hid (List.drop_eq_getElem_cons hlt)
        have Hd' := Lib.hid (List.drop_eq_getElem_cons hltm)
        have b1 : (0 : Int) ≤ (j : Int) := Int.natCast_nonneg _
        have b2 : (j : Int) < (l.length : Int) := by omega
        have b3 : (j : Int) < (m.length : Int) := by omega
        generalize l[j] = f at *
        generalize m[j] = f' at *
        go_wp2
        go_quiet (fail)
        go_wp2
        · rename_i hne
          go_ret
          exact ⟨ret_bool (by rw [hf.out, Hd.out, Hd'.out, eqB]; simp_all), nn + nq, by first | rfl | exact World.drewN_drewN _ _ _⟩
        · rename_i hne
          go_roundg (gk - 1)
          case measure => omega
          case rel => exact ⟨j + 1, by omega, by omega, by go_num, by rw [Hid, hf.out, Hd.out, Hd'.out, eqB]; simp_all, nn + nq, by first | rfl | exact World.drewN_drewN _ _ _⟩
      · go_wp2
        go_ret
        exact ⟨ret_bool (by rw [hf.out, List.drop_of_length_le (by omega), List.drop_of_length_le (by rw [← Hn.out]; omega)]; rfl), _, rfl⟩
  · have hn' : ((l.length : Int) == (m.length : Int)) = false := by simp; omega
    go_enter Try.func19, Try.ntmps19
    go_wp2
    go_ret
    exact ⟨ret_bool (by rw [eqB_len hn]), 0, rfl⟩

theorem copy_any (l : List UInt8) (A : Option Addr) (n cap : Nat) (w : World) (hl : BySl w w.heap.size A l) (hm : l.length ≤ 140737488355328) (hn : Hid (n = l.length)) :
    Calls Try.prog 58 #[.slice A n cap] w (RetOwn w 5 1 encB l) := by
  obtain ⟨i0, hi, hz, hz1, hz2⟩ := info_parts byInfo
  have hown := Own.nil_ w w.heap.size 5 1 encB
  go_enter Try.func58, Try.ntmps58
  go_wp2_with (at_builtin; refine wpList_append_sl _ rfl _ _ _ rfl w.heap.size 5 i0 _ 1 1 Try.underlying36 hi hz hz1 hz2 rfl (by decide) encB_len encB_one (.slice none 0 0) [] (by rfl) hown _ A l n cap (by rfl) hn.out hl (by simp [maxLen]; omega) (by simp; omega) (Nat.le_refl _) ?_; intro v' w' hown' hgrow hat)
  go_ret
  exact ⟨v', rfl, by simpa using hown', (Below.refl _ _).grown hgrow (Nat.le_refl _) (by intro k h; cases h)⟩
end Go.Proofs.Ytiljpbncfofnhaa.Bytes
