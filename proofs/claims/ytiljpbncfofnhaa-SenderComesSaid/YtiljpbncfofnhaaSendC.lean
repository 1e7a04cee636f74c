/- sender: the queue, calm, what a made sender tells. -/
import Derived.Test.YtiljpbncfofnhaaSendB
import Derived.Outline
import Derived.BigQuiet
import Derived.Deep.QuietTactic
import Derived.Deep.RegionWith
import Derived.Deep.RegionHeld3
import Derived.Deep.DrawnRows
import Derived.Deep.LoopGhost
import Derived.Deep.DeepCutAuto
import Derived.Laws.EntriesVeiled
namespace Go.Proofs.Ytiljpbncfofnhaa.Send
open Go.RowKit Go.ChangeShapes Go.WideShapes Go.ChangeAt
set_option linter.unusedVariables false
set_option linter.unusedSimpArgs false
attribute [local go_sem ↓] Go.wp_at_zero Go.wp_at_succ


theorem pInfo : ∃ i, Try.prog.info? 57 = some i := Option.isSome_iff_exists.1 (by kernel_rfl)
theorem pslo (A : Option Addr) (n cap : Nat) (k : Int) (h0 : 0 ≤ k) (h1 : k ≤ (n : Int)) (W : World) :
    (Instr.slice 40 (.slice A n cap) (some (.int .i64 k)) none none).run Try.prog W = .ok (.slice (cutA A cap k.toNat 3) (n - k.toNat) (cap - k.toNat)) W :=
  run_slice_lo Try.underlying40 pInfo (by kernel_rfl) A n cap k h0 h1 W
theorem pshim (A : Option Addr) (n cap : Nat) (k m : Int) (h0 : 0 ≤ k) (h1 : k ≤ m) (h2 : m ≤ (cap : Int)) (W : World) :
    (Instr.slice 40 (.slice A n cap) none (some (.int .i64 k)) (some (.int .i64 m))).run Try.prog W = .ok (.slice A k.toNat m.toNat) W :=
  run_slice_him (c := 3) Try.underlying40 pInfo (by kernel_rfl) A n cap k m h0 h1 h2 W

def mkS (wv fv : Value) (sent acked waited patience : Int) : Array Value := #[.bool true, wv, fv, .int .i64 sent, .int .i64 acked, .int .i64 waited, .int .i64 patience]

theorem take_any (w : World) (g : Nat) (A : Option Addr) (nw cw : Nat) (fv : Value) (sent acked waited patience : Int) (n : Int) (k : Nat) (hb : Blk w g 96 (mkS (.slice A nw cw) fv sent acked waited patience))
    (h0 : 0 ≤ n) (hk : Hid (k = min n.toNat nw)) (hc : nw ≤ cw) (hm : nw ≤ maxLen) :
    Calls Try.prog 65 #[.pointer (some ⟨g, 1, none⟩), .int .i64 n] w fun e w' => e = .returned (.slice A k k) ∧ w.setCell ⟨g, 1, none⟩ (.slice (cutA A cw k 3) (nw - k) (cw - k)) = w' := by
  unfold maxLen at hm
  have c1 : w.cell? ⟨g, 1, none⟩ = some (.slice A nw cw) := hb.cell 1
  have f1 := hb.free 1
  clear hb
  have hkn : k ≤ nw := by rw [hk.out]; omega
  have s1 : ∀ W, (Instr.slice 40 (.slice A nw cw) none (some (.int .i64 (k : Int))) (some (.int .i64 (k : Int)))).run Try.prog W = .ok (.slice A k k) W := fun W => by
    have := pshim A nw cw (k : Int) (k : Int) (by omega) (by omega) (by omega) W
    simpa using this
  have s2 : ∀ W, (Instr.slice 40 (.slice A nw cw) (some (.int .i64 (k : Int))) none none).run Try.prog W = .ok (.slice (cutA A cw k 3) (nw - k) (cw - k)) W := fun W => by
    have := pslo A nw cw (k : Int) (by omega) (by omega) W
    simpa using this
  by_cases h : (nw : Int) < n
  · have e : k = nw := by rw [hk.out]; omega
    subst e
    have e0 : (k - k : Nat) = 0 := by omega
    rw [e0] at s2 ⊢
    go_enter Try.func65, Try.ntmps65
    go_wp2
    go_ret
    exact ⟨rfl, rfl⟩
  · obtain ⟨j, rfl⟩ : ∃ j : Nat, n = (j : Int) := ⟨n.toNat, by omega⟩
    have e : k = j := by rw [hk.out]; omega
    subst e
    go_enter Try.func65, Try.ntmps65
    go_wp2
    go_ret
    exact ⟨rfl, rfl⟩

theorem calm_any (w : World) (g : Nat) (wv fv : Value) (sent acked waited patience : Int) (hb : Blk w g 96 (mkS wv fv sent acked waited patience)) :
    Calls Try.prog 64 #[.pointer (some ⟨g, 0, none⟩)] w fun e w' => e = .returned (.tuple #[]) ∧ Blk w' g 96 (mkS wv fv sent acked 0 2) ∧ Chg (fun k => k = g) w w' := by
  have c5 : w.cell? ⟨g, 5, none⟩ = some (.int .i64 waited) := hb.cell 5
  have f5 := hb.free 5
  have c6 : w.cell? ⟨g, 6, none⟩ = some (.int .i64 patience) := hb.cell 6
  have f6 := hb.free 6
  have HB := Lib.hid hb
  clear hb
  go_enter Try.func64, Try.ntmps64
  go_wp2
  go_end0
  exact ⟨rfl, (HB.out.set_ 5 _).set_ 6 _, ((Chg.refl (fun k => k = g) w).setCell (p := ⟨g, 5, none⟩) (fun _ => rfl) _).setCell (p := ⟨g, 6, none⟩) (fun _ => rfl) _⟩

theorem idle_made (w : World) (g : Nat) (A B : Option Addr) (nw cw nf cf : Nat) (sent acked waited patience : Int) (hb : Blk w g 96 (mkS (.slice A nw cw) (.slice B nf cf) sent acked waited patience)) (h1 : nw ≤ 1000000) (h2 : nf ≤ 1000000) :
    Calls Try.prog 28 #[.pointer (some ⟨g, 0, none⟩)] w fun e w' => e = .returned (.bool ((nw : Int) + (nf : Int) == 0)) ∧ ∃ n, w' = w.drewN n := by
  have c0 : w.cell? ⟨g, 0, none⟩ = some (.bool true) := hb.cell 0
  have c1 : w.cell? ⟨g, 1, none⟩ = some (.slice A nw cw) := hb.cell 1
  have c2 : w.cell? ⟨g, 2, none⟩ = some (.slice B nf cf) := hb.cell 2
  clear hb
  have h3 : IntKind.i64.wrap ((nw : Int) + (nf : Int)) = (nw : Int) + (nf : Int) := IntWalk.i64_in _ (by omega)
  go_enter Try.func28, Try.ntmps28
  go_wp2
  go_quiet ((go_at_call 60; exact quiet_left (none_made g 0 _ c0)))
  go_wp2
  go_ret
  exact ⟨rfl, _, rfl⟩

theorem flying_made (w : World) (g : Nat) (wv : Value) (B : Option Addr) (nf cf : Nat) (sent acked waited patience : Int) (hb : Blk w g 96 (mkS wv (.slice B nf cf) sent acked waited patience)) :
    Calls Try.prog 30 #[.pointer (some ⟨g, 0, none⟩)] w fun e w' => e = .returned (.int .i64 (nf : Int)) ∧ w = w' := by
  have c0 : w.cell? ⟨g, 0, none⟩ = some (.bool true) := hb.cell 0
  have c2 : w.cell? ⟨g, 2, none⟩ = some (.slice B nf cf) := hb.cell 2
  clear hb
  go_enter Try.func30, Try.ntmps30
  go_wp2_with (go_at_call 60; refine (none_made g 0 _ c0).mono ?_; rintro e w' ⟨rfl, rfl⟩)
  go_ret
  exact ⟨rfl, rfl⟩

theorem acked_made (w : World) (g : Nat) (wv fv : Value) (sent acked waited patience : Int) (hb : Blk w g 96 (mkS wv fv sent acked waited patience)) :
    Calls Try.prog 31 #[.pointer (some ⟨g, 0, none⟩)] w fun e w' => e = .returned (.int .i64 acked) ∧ w = w' := by
  have c0 : w.cell? ⟨g, 0, none⟩ = some (.bool true) := hb.cell 0
  have c4 : w.cell? ⟨g, 4, none⟩ = some (.int .i64 acked) := hb.cell 4
  clear hb
  go_enter Try.func31, Try.ntmps31
  go_wp2_with (go_at_call 60; refine (none_made g 0 _ c0).mono ?_; rintro e w' ⟨rfl, rfl⟩)
  go_ret
  exact ⟨rfl, rfl⟩

theorem new_any (w : World) : Calls Try.prog 14 #[] w fun e w' => e = .returned (.pointer (some ⟨w.heap.size, 0, none⟩)) ∧ w.alloc (.cells (mkS (.slice none 0 0) (.slice none 0 0) 0 0 0 2) 96) = w' := by
  go_enter Try.func14, Try.ntmps14
  go_wp2
  go_ret
  exact ⟨rfl, rfl⟩

/-- the state of a sender: what flies, what waits (each with whether it is the last one), the last number that was acknowledged -/
structure St where
  fl : List (Bool × List UInt8)
  wt : List (Bool × List UInt8)
  acked : Nat
  waited : Int
  patience : Int
def numd : Nat → List (Bool × List UInt8) → List (Int × Bool × List UInt8)
  | _, [] => []
  | a, x :: r => (((a + 1 : Nat) : Int), x.1, x.2) :: numd (a + 1) r
theorem numd_len : ∀ (l : List (Bool × List UInt8)) (a : Nat), (numd a l).length = l.length
  | [], a => rfl
  | x :: l, a => by simp [numd, numd_len l]
theorem numd_append : ∀ (l m : List (Bool × List UInt8)) (a : Nat), numd a (l ++ m) = numd a l ++ numd (a + l.length) m
  | [], m, a => rfl
  | x :: l, m, a => by simp [numd, numd_append l m, Nat.add_assoc, Nat.add_comm 1]
theorem numd_drop : ∀ (k : Nat) (l : List (Bool × List UInt8)) (a : Nat), k ≤ l.length → (numd a l).drop k = numd (a + k) (l.drop k)
  | 0, l, a, _ => rfl
  | k + 1, [], a, h => by simp at h
  | k + 1, x :: l, a, h => by
    simp only [numd, List.drop_succ_cons]
    rw [numd_drop k l (a + 1) (by simpa using h)]
    congr 1; omega
theorem numd_take : ∀ (k : Nat) (l : List (Bool × List UInt8)) (a : Nat), (numd a l).take k = numd a (l.take k)
  | 0, l, a => rfl
  | k + 1, [], a => rfl
  | k + 1, x :: l, a => by simp only [numd, List.take_succ_cons, numd_take k l]

structure St.Ok (s : St) : Prop where
  fl : s.fl.length ≤ 4
  all : s.acked + s.fl.length + s.wt.length ≤ 1000000
  w0 : 0 ≤ s.waited
  w1 : s.waited < s.patience
  p0 : 2 ≤ s.patience
  p1 : s.patience ≤ 16

structure SndAt (w : World) (g : Nat) (F : Nat → Prop) (s : St) (wv fv : Value) (wp fp : List Pc) : Prop where
  blk : Blk w g 96 (mkS wv fv ((s.acked + s.fl.length + s.wt.length : Nat) : Int) (s.acked : Int) s.waited s.patience)
  fg : F g
  lt : ∀ k, F k → k < w.heap.size
  wo : PcOwn F w 57 wv wp
  fo : PcOwn F w 57 fv fp
  sep : ∀ k, wv.ownBlock = some k → fv.ownBlock ≠ some k
  wc : wp.map Pc.core = numd (s.acked + s.fl.length) s.wt
  fc : fp.map Pc.core = numd s.acked s.fl
/-- at g lies a sender of that state, in the blocks F -/
def Snd (w : World) (g : Nat) (F : Nat → Prop) (s : St) : Prop := ∃ wv fv wp fp, SndAt w g F s wv fv wp fp
theorem SndAt.wlen {w : World} {g : Nat} {F : Nat → Prop} {s : St} {wv fv : Value} {wp fp : List Pc} (h : SndAt w g F s wv fv wp fp) : wp.length = s.wt.length := by
  have := congrArg List.length h.wc
  simpa [numd_len] using this
theorem SndAt.flen {w : World} {g : Nat} {F : Nat → Prop} {s : St} {wv fv : Value} {wp fp : List Pc} (h : SndAt w g F s wv fv wp fp) : fp.length = s.fl.length := by
  have := congrArg List.length h.fc
  simpa [numd_len] using this
theorem SndAt.chg {w w' : World} {g : Nat} {F S : Nat → Prop} {s : St} {wv fv : Value} {wp fp : List Pc} (h : SndAt w g F s wv fv wp fp) (hc : Chg S w w') (hn : ∀ k, F k → ¬ S k) : SndAt w' g F s wv fv wp fp :=
  ⟨h.blk.chg hc (hn g h.fg), h.fg, fun k hk => Nat.lt_of_lt_of_le (h.lt k hk) hc.size, h.wo.chg hc hn, h.fo.chg hc hn, h.sep, h.wc, h.fc⟩
theorem Snd.chg {w w' : World} {g : Nat} {F S : Nat → Prop} {s : St} (h : Snd w g F s) (hc : Chg S w w') (hn : ∀ k, F k → ¬ S k) : Snd w' g F s := by
  obtain ⟨wv, fv, wp, fp, h⟩ := h
  exact ⟨wv, fv, wp, fp, h.chg hc hn⟩
/-- what an act on a sender leaves -/
def SndOp (w : World) (g : Nat) (F : Nat → Prop) (s' : St) (w' : World) : Prop := ∃ F', Snd w' g F' s' ∧ Chg F w w' ∧ ∀ k, F' k → F k ∨ w.heap.size ≤ k
end Go.Proofs.Ytiljpbncfofnhaa.Send
