/- chunk: what Take does, of the program and of the document. -/
import Derived.Test.YtiljpbncfofnhaaJoinA
import Derived.Outline
import Derived.BigQuiet
import Derived.Deep.QuietTactic
import Derived.Deep.RegionWith
import Derived.Deep.RegionHeld3
import Derived.Deep.DrawnRows
import Derived.Deep.LoopGhost
import Derived.Deep.DeepCutAuto
import Derived.Laws.EntriesVeiled
namespace Go.Proofs.Ytiljpbncfofnhaa.JoinB
open Go.RowKit Go.ChangeShapes Go.WideShapes Go.ChangeAt
set_option linter.unusedVariables false
set_option linter.unusedSimpArgs false
attribute [local go_sem ↓] Go.wp_at_zero Go.wp_at_succ
open JoinA

/-- the error that a chunk meets, if any -/
def tkErr (taken : Int) (acc bs : List UInt8) (seq : Int) (last : Bool) : Option Int :=
  if seq ≠ taken + 1 then some 2 else if bs.length = 0 ∨ 48 < bs.length ∨ (bs.length < 48 ∧ last = false) ∨ 262144 < acc.length + bs.length then some 230 else none
def tkTaken (taken : Int) (r : Option Int) : Int := match r with | none => taken + 1 | some _ => taken
def tkAcc (acc bs : List UInt8) (last : Bool) (r : Option Int) : List UInt8 := match r with | none => if last then [] else acc ++ bs | some _ => acc
def tkOut (acc bs : List UInt8) (last : Bool) (r : Option Int) : List UInt8 := match r with | none => if last then acc ++ bs else [] | some _ => []
def tkWhole (last : Bool) (r : Option Int) : Bool := match r with | none => last | some _ => false
def tkCode (r : Option Int) : Int := r.getD 0

/-- what Take leaves: g the joiner's block of type T, mk what its cells are -/
def TakePost (w : World) (g : Nat) (T : TypeId) (mk : Int → Value → Array Value) (base : Nat) (jb : Value) (taken : Int) (acc bs : List UInt8) (last : Bool) (r : Option Int) (e : Ending) (w' : World) : Prop :=
  ∃ X xc jb', e = .returned (.tuple #[.slice X (tkOut acc bs last r).length xc, .bool (tkWhole last r), .int .i64 (tkCode r)]) ∧ Blk w' g T (mk (tkTaken taken r) jb') ∧
    Own w' base 5 1 encB jb' (tkAcc acc bs last r) ∧ BySl w' w'.heap.size X (tkOut acc bs last r) ∧ CellsAt w' 5 .u8 X (tkOut acc bs last r).length ∧
    Chg (fun k => k = g ∨ jb.ownBlock = some k) w w' ∧ (∀ k, jb'.ownBlock = some k → jb.ownBlock = some k ∨ w.heap.size ≤ k) ∧
    (∀ k, blockOf X = some k → (jb.ownBlock = some k ∨ w.heap.size ≤ k) ∧ base ≤ k ∧ jb'.ownBlock ≠ some k)

theorem take_err {w : World} {g : Nat} {T : TypeId} {mk : Int → Value → Array Value} {base : Nat} {jb : Value} {taken : Int} {acc bs : List UInt8} {last : Bool} {n : Int}
    (hb : Blk w g T (mk taken jb)) (hown : Own w base 5 1 encB jb acc) : TakePost w g T mk base jb taken acc bs last (some n) (.returned (.tuple #[.slice none 0 0, .bool false, .int .i64 n])) w :=
  ⟨none, 0, jb, rfl, hb, hown, Sl.nil _ _ _ _ _, .inl rfl, Chg.refl _ _, fun k hk => .inl hk, fun k hk => by cases hk⟩

theorem byInfo : (Try.prog.info? 5).map (fun i => (i.zero, i.size, i.bytes)) = some (some (.int .u8 0), 1, 1) := by kernel_rfl

section prog
def mkJ (taken : Int) (jb : Value) : Array Value := #[.bool true, .int .i64 taken, jb]

theorem take_seq (w : World) (g : Nat) (jb b : Value) (taken seq : Int) (last : Bool) (ht : 0 ≤ taken) (ht2 : taken ≤ 1000000) (hb : Blk w g 108 (mkJ taken jb)) (h : (seq == taken + 1) = false) :
    Calls Try.prog 36 #[.pointer (some ⟨g, 0, none⟩), .int .i64 seq, .bool last, b] w fun e w' => e = .returned (.tuple #[.slice none 0 0, .bool false, .int .i64 2]) ∧ w = w' := by
  have c0 : w.cell? ⟨g, 0, none⟩ = some (.bool true) := hb.cell 0
  have c1 : w.cell? ⟨g, 1, none⟩ = some (.int .i64 taken) := hb.cell 1
  have hnone := Lib.hid (none_made g 0 w c0)
  clear hb
  go_enter Try.func36, Try.ntmps36
  go_wp2_with (go_at_call 73; refine (hnone.out).mono ?_; rintro e w' ⟨rfl, rfl⟩)
  go_ret3
  exact ⟨rfl, rfl⟩

theorem take_size (w : World) (g : Nat) (A B : Option Addr) (na ca nb cb : Nat) (taken : Int) (last : Bool) (ht : 0 ≤ taken) (ht2 : taken ≤ 1000000) (hna : na ≤ 262144) (hnb : nb ≤ maxLen) (hb : Blk w g 108 (mkJ taken (.slice A na ca)))
    (h : nb = 0 ∨ 48 < nb ∨ (nb < 48 ∧ last = false) ∨ 262144 < na + nb) :
    Calls Try.prog 36 #[.pointer (some ⟨g, 0, none⟩), .int .i64 (taken + 1), .bool last, .slice B nb cb] w fun e w' => e = .returned (.tuple #[.slice none 0 0, .bool false, .int .i64 230]) ∧ w = w' := by
  unfold maxLen at hnb
  have c0 : w.cell? ⟨g, 0, none⟩ = some (.bool true) := hb.cell 0
  have c1 : w.cell? ⟨g, 1, none⟩ = some (.int .i64 taken) := hb.cell 1
  have c2 : w.cell? ⟨g, 2, none⟩ = some (.slice A na ca) := hb.cell 2
  have hnone := Lib.hid (none_made g 0 w c0)
  clear hb
  by_cases a1 : nb = 0
  · subst a1
    clear h
    go_enter Try.func36, Try.ntmps36
    go_wp2_with (go_at_call 73; refine (hnone.out).mono ?_; rintro e w' ⟨rfl, rfl⟩)
    go_ret3
    exact ⟨rfl, rfl⟩
  · by_cases a2 : 48 < nb
    · clear h
      go_enter Try.func36, Try.ntmps36
      go_wp2_with (go_at_call 73; refine (hnone.out).mono ?_; rintro e w' ⟨rfl, rfl⟩)
      go_ret3
      exact ⟨rfl, rfl⟩
    · by_cases a3 : nb < 48
      · cases last with
        | false =>
          clear h
          go_enter Try.func36, Try.ntmps36
          go_wp2_with (go_at_call 73; refine (hnone.out).mono ?_; rintro e w' ⟨rfl, rfl⟩)
          go_ret3
          exact ⟨rfl, rfl⟩
        | true =>
          have a4 : 262144 < na + nb := by rcases h with h | h | h | h <;> first | omega | (cases h.2)
          clear h
          go_enter Try.func36, Try.ntmps36
          go_wp2_with (go_at_call 73; refine (hnone.out).mono ?_; rintro e w' ⟨rfl, rfl⟩)
          go_ret3
          exact ⟨rfl, rfl⟩
      · have a4 : 262144 < na + nb := by rcases h with h | h | h | h <;> omega
        clear h
        go_enter Try.func36, Try.ntmps36
        go_wp2_with (go_at_call 73; refine (hnone.out).mono ?_; rintro e w' ⟨rfl, rfl⟩)
        go_ret3
        exact ⟨rfl, rfl⟩

end prog
end Go.Proofs.Ytiljpbncfofnhaa.JoinB
