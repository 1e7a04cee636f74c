/- sender: senders that nobody made; what made ones tell. -/
import Derived.Test.YtiljpbncfofnhaaRows
import Derived.Test.YtiljpbncfofnhaaFoot
import Derived.Outline
import Derived.BigQuiet
import Derived.Deep.QuietTactic
import Derived.Deep.RegionWith
import Derived.Deep.RegionHeld3
import Derived.Deep.DrawnRows
import Derived.Deep.LoopGhost
import Derived.Deep.DeepCutAuto
import Derived.Laws.EntriesVeiled
namespace Go.Proofs.Ytiljpbncfofnhaa.Send
open Go.RowKit Go.ChangeShapes Go.WideShapes Go.ChangeAt
set_option linter.unusedVariables false
set_option linter.unusedSimpArgs false
attribute [local go_sem ↓] Go.wp_at_zero Go.wp_at_succ

theorem none_nil (w : World) : Calls Try.prog 60 #[.pointer none] w fun e w' => e = .returned (.bool true) ∧ w = w' := by
  go_enter Try.func60, Try.ntmps60
  go_wp2
  go_ret
  exact ⟨rfl, rfl⟩

theorem none_unmade (b o : Nat) (w : World) (h : w.cell? ⟨b, o, none⟩ = some (.bool false)) : Calls Try.prog 60 #[.pointer (some ⟨b, o, none⟩)] w fun e w' => e = .returned (.bool true) ∧ w = w' := by
  go_enter Try.func60, Try.ntmps60
  go_wp2
  go_ret
  exact ⟨rfl, rfl⟩

theorem none_made (b o : Nat) (w : World) (h : w.cell? ⟨b, o, none⟩ = some (.bool true)) : Calls Try.prog 60 #[.pointer (some ⟨b, o, none⟩)] w fun e w' => e = .returned (.bool false) ∧ w = w' := by
  go_enter Try.func60, Try.ntmps60
  go_wp2
  go_ret
  exact ⟨rfl, rfl⟩

def Nobody (w : World) (p : Option Addr) : Prop := p = none ∨ ∃ b o, p = some ⟨b, o, none⟩ ∧ w.cell? ⟨b, o, none⟩ = some (.bool false)

theorem none_any (p : Option Addr) (w : World) (h : Nobody w p) : Calls Try.prog 60 #[.pointer p] w fun e w' => e = .returned (.bool true) ∧ w = w' := by
  rcases h with rfl | ⟨b, o, rfl, h⟩
  · exact none_nil w
  · exact none_unmade b o w h

theorem load_nobody (p : Option Addr) (x : Value) (w : World) (h : Nobody w p) : Calls Try.prog 17 #[.pointer p, x] w fun e w' => e = .returned (.int .i64 1) ∧ w = w' := by
  go_enter Try.func17, Try.ntmps17
  go_wp2_with (go_at_call 60; refine (none_any _ _ h).mono ?_; rintro e w' ⟨rfl, rfl⟩)
  go_ret
  exact ⟨rfl, rfl⟩

theorem ack_nobody (p : Option Addr) (x : Value) (w : World) (h : Nobody w p) : Calls Try.prog 24 #[.pointer p, x] w fun e w' => e = .returned (.int .i64 1) ∧ w = w' := by
  go_enter Try.func24, Try.ntmps24
  go_wp2_with (go_at_call 60; refine (none_any _ _ h).mono ?_; rintro e w' ⟨rfl, rfl⟩)
  go_ret
  exact ⟨rfl, rfl⟩

theorem send_nobody (p : Option Addr) (w : World) (h : Nobody w p) : Calls Try.prog 22 #[.pointer p] w fun e w' => e = .returned (.slice none 0 0) ∧ w = w' := by
  go_enter Try.func22, Try.ntmps22
  go_wp2_with (go_at_call 60; refine (none_any _ _ h).mono ?_; rintro e w' ⟨rfl, rfl⟩)
  go_ret
  exact ⟨rfl, rfl⟩

theorem tick_nobody (p : Option Addr) (w : World) (h : Nobody w p) : Calls Try.prog 26 #[.pointer p] w fun e w' => e = .returned (.slice none 0 0) ∧ w = w' := by
  go_enter Try.func26, Try.ntmps26
  go_wp2_with (go_at_call 60; refine (none_any _ _ h).mono ?_; rintro e w' ⟨rfl, rfl⟩)
  go_ret
  exact ⟨rfl, rfl⟩

theorem idle_nobody (p : Option Addr) (w : World) (h : Nobody w p) : Calls Try.prog 28 #[.pointer p] w fun e w' => e = .returned (.bool false) ∧ ∃ n, w' = w.drewN n := by
  go_enter Try.func28, Try.ntmps28
  go_wp2
  go_quiet ((go_at_call 60; exact quiet_left (none_any _ _ h)))
  go_wp2
  go_ret
  exact ⟨rfl, _, rfl⟩

theorem flying_nobody (p : Option Addr) (w : World) (h : Nobody w p) : Calls Try.prog 30 #[.pointer p] w fun e w' => e = .returned (.int .i64 0) ∧ w = w' := by
  go_enter Try.func30, Try.ntmps30
  go_wp2_with (go_at_call 60; refine (none_any _ _ h).mono ?_; rintro e w' ⟨rfl, rfl⟩)
  go_ret
  exact ⟨rfl, rfl⟩

theorem acked_nobody (p : Option Addr) (w : World) (h : Nobody w p) : Calls Try.prog 31 #[.pointer p] w fun e w' => e = .returned (.int .i64 0) ∧ w = w' := by
  go_enter Try.func31, Try.ntmps31
  go_wp2_with (go_at_call 60; refine (none_any _ _ h).mono ?_; rintro e w' ⟨rfl, rfl⟩)
  go_ret
  exact ⟨rfl, rfl⟩

/-- chunks: slices of bytes, as they stand in a slice of such -/
structure Ch where
  A : Option Addr
  n : Nat
  cap : Nat
  bs : List UInt8
def Ch.cells (c : Ch) : List Value := [.slice c.A c.n c.cap]
structure Ch.Ok (w : World) (c : Ch) : Prop where
  sl : BySl w w.heap.size c.A c.bs
  n : Hid (c.n = c.bs.length)
  le : c.n ≤ maxLen
  cap : c.n ≤ c.cap
  nil : c.A = none → c.cap = 0
abbrev ChSl (w : World) (B : Nat) (A : Option Addr) (l : List Ch) : Prop := Sl w B 1 Ch.cells A l
theorem ChSl.at_ {w : World} {B : Nat} {A : Option Addr} {l : List Ch} (h : ChSl w B A l) {k : Nat} {c : Ch} (hx : l[k]? = some c) :
    ∃ b off, A = some ⟨b, off, none⟩ ∧ b < B ∧ w.cell? ⟨b, off + k, none⟩ = some (.slice c.A c.n c.cap) := by
  obtain ⟨b, off, e, hb, hc⟩ := Sl.at_ h hx
  exact ⟨b, off, e, hb, by simpa using hc 0 _ rfl⟩

/-- an act -/
structure Act where
  kind : Int
  seq : Int
  A : Option Addr
  n : Nat
  cap : Nat
  cs : List Ch
def Act.cells (a : Act) : List Value := [.int .u8 a.kind, .int .i64 a.seq, .slice a.A a.n a.cap]
structure Act.Ok (w : World) (a : Act) : Prop where
  kind : 0 ≤ a.kind ∧ a.kind ≤ 255
  seq : (Lit.int .i64 a.seq).wf = true
  sl : ChSl w w.heap.size a.A a.cs
  n : Hid (a.n = a.cs.length)
  le : a.n ≤ 140737488355328
  each : ∀ c ∈ a.cs, Ch.Ok w c
theorem act_at {w : World} {B : Nat} {A : Option Addr} {l : List Act} (h : Sl w B 3 Act.cells A l) {k : Nat} {f : Act} (hx : l[k]? = some f) :
    ∃ b off, A = some ⟨b, off, none⟩ ∧ b < B ∧ w.cell? ⟨b, off + k * 3, none⟩ = some (.int .u8 f.kind) ∧ w.cell? ⟨b, off + k * 3 + 1, none⟩ = some (.int .i64 f.seq) ∧ w.cell? ⟨b, off + k * 3 + 2, none⟩ = some (.slice f.A f.n f.cap) := by
  obtain ⟨b, off, e, hb, hc⟩ := Sl.at_ h hx
  exact ⟨b, off, e, hb, hc 0 _ rfl, hc 1 _ rfl, hc 2 _ rfl⟩
theorem Ch.Ok.ext {w w' : World} {c : Ch} (h : Ch.Ok w c) (hb : Below w.heap.size w w') : Ch.Ok w' c := ⟨h.sl.ext hb, h.n, h.le, h.cap, h.nil⟩
theorem Act.Ok.ext {w w' : World} {a : Act} (h : Act.Ok w a) (hb : Below w.heap.size w w') : Act.Ok w' a := ⟨h.kind, h.seq, Sl.ext h.sl hb, h.n, h.le, fun c hc => (h.each c hc).ext hb⟩

/-- are these more than are gone through? of one act's chunks, from k on -/
def longCh (cs : List Ch) : Bool := cs.any fun c => decide (100 < c.n)
def greatA : List Act → Int → Bool
  | [], _ => false
  | a :: r, n => decide (400 < n + a.n) || decide (1048576 < a.seq) || decide (a.seq < -1048576) || longCh a.cs || greatA r (n + a.n)
def great (l : List Act) : Bool := decide (200 < l.length) || greatA l 0


theorem greatA_cons (a : Act) (r : List Act) (n : Int) : greatA (a :: r) n = (decide (400 < n + a.n) || decide (1048576 < a.seq) || decide (a.seq < -1048576) || longCh a.cs || greatA r (n + a.n)) := rfl

set_option maxHeartbeats 1000000 in
theorem great_any (l : List Act) (A : Option Addr) (n cap : Nat) (w : World) (hl : Sl w w.heap.size 3 Act.cells A l) (hok : ∀ a ∈ l, Act.Ok w a) (hn : Hid (n = l.length)) (h63 : n ≤ maxLen) :
    Calls Try.prog 13 #[.slice A n cap] w fun e w' => e = .returned (.bool (great l)) ∧ w = w' := by
  unfold maxLen at h63
  by_cases h200 : 200 < n
  · have he := Lib.hid (show great l = true by rw [great, ← hn.out]; simp [h200])
    go_enter Try.func13, Try.ntmps13
    go_wp2
    go_ret
    exact ⟨ret_bool he.out.symm, rfl⟩
  · have he := Lib.hid (show great l = greatA l 0 by rw [great, ← hn.out]; simp [h200])
    go_enter Try.func13, Try.ntmps13
    go_wp2
    go_loop [3, 4] (fun s i => ∃ (j : Nat) (m : Int), j ≤ n ∧ i = .int .i64 j ∧ s = .int .i64 m ∧ 0 ≤ m ∧ m ≤ 400 ∧ Hid (great l = greatA (l.drop j) m)) (fun _ i => n - (intOf i).toNat)
    case atStart => exact ⟨0, 0, by omega, rfl, rfl, by omega, by omega, he⟩
    case round =>
      obtain ⟨j, m, hj, rfl, rfl, hm0, hm1, hf⟩ := hrel
      by_cases hlt : j < n
      · have hlt' : j < l.length := by rw [← hn.out]; exact hlt
        have hx : l[j]? = some l[j] := List.getElem?_eq_getElem hlt'
        have hact := hok l[j] (List.getElem_mem hlt')
        have hd := Lib.hid (List.drop_eq_getElem_cons hlt')
        obtain ⟨bb, off, rfl, hbb, c0, c1, c2⟩ := act_at hl hx
        generalize l[j] = a at *
        have b1 : (0 : Int) ≤ (j : Int) := Int.natCast_nonneg _
        have b2 : (j : Int) < (n : Int) := by omega
        have hseq : -9223372036854775808 ≤ a.seq ∧ a.seq ≤ 9223372036854775807 := by simpa [Lit.wf, IntKind.min, IntKind.max, IntKind.signed, IntKind.bits] using hact.seq
        obtain ⟨hs1, hs2⟩ := hseq
        have han := hact.le
        have HA := Lib.hid hact
        clear hx hact c0 he
        by_cases t1 : 400 < m + (a.n : Int)
        · go_wp2
          go_ret
          exact ⟨ret_bool (by rw [hf.out, hd.out, greatA_cons, decide_eq_true t1]; rfl), rfl⟩
        · by_cases t2 : 1048576 < a.seq
          · go_wp2
            go_ret
            exact ⟨ret_bool (by rw [hf.out, hd.out, greatA_cons, decide_eq_true t2]; simp), rfl⟩
          · by_cases t3 : a.seq < -1048576
            · go_wp2
              go_ret
              exact ⟨ret_bool (by rw [hf.out, hd.out, greatA_cons, decide_eq_true t3]; simp), rfl⟩
            · have hstep := Lib.hid (show great l = (longCh a.cs || greatA (l.drop (j + 1)) (m + a.n)) by
                rw [hf.out, hd.out, greatA_cons, decide_eq_false t1, decide_eq_false t2, decide_eq_false t3]; rfl)
              clear hf hd
              go_wp2
              go_loop [5] (fun i => ∃ k : Nat, k ≤ a.n ∧ i = .int .i64 k ∧ Hid (longCh a.cs = longCh (a.cs.drop k))) (fun i => a.n - (intOf i).toNat)
              case atStart => exact ⟨0, by omega, rfl, rfl⟩
              case round =>
                obtain ⟨k, hk, rfl, hq⟩ := hrel
                by_cases hklt : k < a.n
                · have hk' : k < a.cs.length := by rw [← HA.out.n.out]; exact hklt
                  have hy : a.cs[k]? = some a.cs[k] := List.getElem?_eq_getElem hk'
                  have hch := HA.out.each a.cs[k] (List.getElem_mem hk')
                  have hdk := Lib.hid (List.drop_eq_getElem_cons hk')
                  obtain ⟨bc, oc, hAc, hbc, d0⟩ := ChSl.at_ HA.out.sl hy
                  generalize a.cs[k] = c at *
                  have hcn := hch.le
                  unfold maxLen at hcn
                  have b3 : (0 : Int) ≤ (k : Int) := Int.natCast_nonneg _
                  have b4 : (k : Int) < (a.n : Int) := by omega
                  rw [hAc] at c2
                  clear hy hch hAc
                  by_cases t4 : 100 < c.n
                  · go_wp2
                    go_ret
                    exact ⟨ret_bool (by rw [hstep.out, hq.out, hdk.out, longCh, List.any_cons, decide_eq_true t4]; simp), rfl⟩
                  · go_wp2
                    go_round
                    case rel => exact ⟨k + 1, by omega, by go_num, by rw [Hid, hq.out, hdk.out, longCh, List.any_cons, decide_eq_false t4]; rfl⟩
                    case measure => simp [intOf]; omega
                · have hfin := Lib.hid (show great l = greatA (l.drop (j + 1)) (m + a.n) by
                    rw [hstep.out, hq.out, List.drop_of_length_le (by rw [← HA.out.n.out]; omega)]; rfl)
                  go_wp2
                  go_round
                  case rel => exact ⟨j + 1, m + a.n, by omega, by go_num, by go_num, by omega, by omega, hfin⟩
                  case measure => simp [intOf]; omega
      · go_wp2
        go_ret
        exact ⟨ret_bool (by rw [hf.out, List.drop_of_length_le (by rw [← hn.out]; omega)]; rfl), rfl⟩

end Go.Proofs.Ytiljpbncfofnhaa.Send
