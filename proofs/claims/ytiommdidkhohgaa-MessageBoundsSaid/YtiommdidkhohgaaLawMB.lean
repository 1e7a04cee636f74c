/- MessageBounds: a number beyond its bounds, chunks that are too long, make a message that may not be; just at the bounds it may be: whatever the input, the law returns true. -/
import Derived.Test.YtiommdidkhohgaaMsgD
import Derived.ChangeMaps5
import Derived.Outline
import Derived.BigQuiet
import Derived.Deep.QuietTactic
import Derived.Deep.RegionWith
import Derived.Deep.RegionHeld3
import Derived.Deep.DrawnRows
import Derived.Deep.LoopGhost
import Derived.Deep.DeepCutAuto
import Derived.Laws.EntriesVeiled
namespace Go.Proofs.Ytiommdidkhohgaa.lawMB
open Go.RowKit Go.ChangeShapes Go.WideShapes Go.ChangeAt
set_option linter.unusedVariables false
set_option linter.unusedSimpArgs false
attribute [local go_sem ↓] Go.wp_at_zero Go.wp_at_succ
open Wire Word Bytes Go.Shelf Msg

theorem tmod5 {z : Int} (h0 : 0 ≤ z) : z.tmod 5 = 0 ∨ z.tmod 5 = 1 ∨ z.tmod 5 = 2 ∨ z.tmod 5 = 3 ∨ z.tmod 5 = 4 := by
  have h1 := Int.tmod_nonneg 5 h0
  have h2 := Int.tmod_lt_of_pos z (show (0 : Int) < 5 by decide)
  omega
def msg (kd : Nat) (cl ep wd sq : Int) (A : Option Addr) (n c : Nat) : Mr := ⟨⟨kd, cl, ep, wd, sq, false, List.replicate n 0⟩, A, n, c⟩
theorem may_msg (kd : Nat) (cl ep wd sq : Int) (A : Option Addr) (n c : Nat) (b : Bool) (w : World) (hb : mayB (msg kd cl ep wd sq A n c).v = b) (hk : kd ≤ 255) :
    Calls Try.prog 33 #[.agg #[.int .u8 (kd : Int), .int .i64 cl, .int .i64 ep, .int .i64 wd, .int .i64 sq, .bool false, .slice A n c]] w fun e w' => e = .returned (.bool b) ∧ Below w.heap.size w w' :=
  may_v (msg kd cl ep wd sq A n c) b w hb hk (by rw [Hid]; simp [msg])
theorem up_set {w w1 w2 w3 : World} {j : Nat} {v : Value} (h1 : Below w.heap.size w w1) (h2 : Below w1.heap.size w1 w2) (h3 : Below (w2.setCell ⟨w1.heap.size, j, none⟩ v).heap.size (w2.setCell ⟨w1.heap.size, j, none⟩ v) w3) : Below w.heap.size w w3 := by
  have ha := (ext_under h1 (Nat.le_refl _) h2).setCell (p := ⟨w1.heap.size, j, none⟩) h1.size v
  exact ext_under ha (Nat.le_refl _) h3
set_option maxHeartbeats 1000000 in
theorem walkA0 (z q : Int) (b : Bool) (k : Nat) (hk : k = 1 ∨ k = 2 ∨ k = 3 ∨ k = 5) (hz : z.tmod 5 + 1 = (k : Int)) (w : World) (hq : q.tmod 5 = 0) :
    Calls Try.prog 12 #[.int .u8 z, .int .u8 q, .bool b] w fun e w' => e = .returned (.bool true) ∧ Below w.heap.size w w' := by
  have h1 : IntKind.u8.wrap (1 + z.tmod 5) = (k : Int) := by rw [Int.add_comm, hz]; rcases hk with rfl | rfl | rfl | rfl <;> rfl
  have h2 : ((k : Int) == 4) = false := by rcases hk with rfl | rfl | rfl | rfl <;> rfl
  have hm1 := Lib.hid fun W => may_msg k 0 1 0 0 none 0 0 true W (by rcases hk with rfl | rfl | rfl | rfl <;> rfl) (by omega)
  have h4 : ((k : Int) == 4) = false := by rcases hk with rfl | rfl | rfl | rfl <;> rfl
  clear hz
  cases b with
  | false =>
    have hm2 := Lib.hid fun W => may_msg k 5 1 0 0 none 0 0 true W (by rcases hk with rfl | rfl | rfl | rfl <;> rfl) (by omega)
    go_enter Try.func12, Try.ntmps12
    go_wp2_with fail
    refine (Msg.awake_any w).mono ?_; rintro e w1 ⟨rfl, hb1⟩
    have HB1 := Lib.hid hb1
    clear hb1
    go_wp2_with fail
    refine (hm1.out _).mono ?_; rintro e w2 ⟨rfl, hb2⟩
    have HB2 := box_in hb2
    clear hb2
    have da := (HB2.out.1).cell 0; have db := (HB2.out.1).cell 1; have dc := (HB2.out.1).cell 2; have dd := (HB2.out.1).cell 3; have de := (HB2.out.1).cell 4; have df := (HB2.out.1).cell 5; have dg := (HB2.out.1).cell 6; have di := (HB2.out.1).free 1; have dj := (HB2.out.1).free 2; have dk := (HB2.out.1).free 3; have dl := (HB2.out.1).free 4; have dm := (HB2.out.1).free 6; simp only [List.getElem?_toArray, List.getElem?_cons_zero, List.getElem?_cons_succ] at da db dc dd de df dg
    go_wp2_with (go_at_call 33; refine (hm2.out _).mono ?_; rintro e w3 ⟨rfl, hb3⟩)
    go_ret
    exact ⟨rfl, up_set HB1.out HB2.out.2.1 hb3⟩
  | true =>
    have hm2 := Lib.hid fun W => may_msg k 6 1 0 0 none 0 0 false W (by rcases hk with rfl | rfl | rfl | rfl <;> rfl) (by omega)
    go_enter Try.func12, Try.ntmps12
    go_wp2_with fail
    refine (Msg.awake_any w).mono ?_; rintro e w1 ⟨rfl, hb1⟩
    have HB1 := Lib.hid hb1
    clear hb1
    go_wp2_with fail
    refine (hm1.out _).mono ?_; rintro e w2 ⟨rfl, hb2⟩
    have HB2 := box_in hb2
    clear hb2
    have da := (HB2.out.1).cell 0; have db := (HB2.out.1).cell 1; have dc := (HB2.out.1).cell 2; have dd := (HB2.out.1).cell 3; have de := (HB2.out.1).cell 4; have df := (HB2.out.1).cell 5; have dg := (HB2.out.1).cell 6; have di := (HB2.out.1).free 1; have dj := (HB2.out.1).free 2; have dk := (HB2.out.1).free 3; have dl := (HB2.out.1).free 4; have dm := (HB2.out.1).free 6; simp only [List.getElem?_toArray, List.getElem?_cons_zero, List.getElem?_cons_succ] at da db dc dd de df dg
    go_wp2_with (go_at_call 33; refine (hm2.out _).mono ?_; rintro e w3 ⟨rfl, hb3⟩)
    go_ret
    exact ⟨rfl, up_set HB1.out HB2.out.2.1 hb3⟩
set_option maxHeartbeats 1000000 in
theorem walkA1 (z q : Int) (b : Bool) (k : Nat) (hk : k = 1 ∨ k = 2 ∨ k = 3 ∨ k = 5) (hz : z.tmod 5 + 1 = (k : Int)) (w : World) (hq : q.tmod 5 = 1) :
    Calls Try.prog 12 #[.int .u8 z, .int .u8 q, .bool b] w fun e w' => e = .returned (.bool true) ∧ Below w.heap.size w w' := by
  have h1 : IntKind.u8.wrap (1 + z.tmod 5) = (k : Int) := by rw [Int.add_comm, hz]; rcases hk with rfl | rfl | rfl | rfl <;> rfl
  have h2 : ((k : Int) == 4) = false := by rcases hk with rfl | rfl | rfl | rfl <;> rfl
  have hm1 := Lib.hid fun W => may_msg k 0 1 0 0 none 0 0 true W (by rcases hk with rfl | rfl | rfl | rfl <;> rfl) (by omega)
  have h4 : ((k : Int) == 4) = false := by rcases hk with rfl | rfl | rfl | rfl <;> rfl
  clear hz
  cases b with
  | false =>
    have hm2 := Lib.hid fun W => may_msg k 0 1099511627776 0 0 none 0 0 true W (by rcases hk with rfl | rfl | rfl | rfl <;> rfl) (by omega)
    go_enter Try.func12, Try.ntmps12
    go_wp2_with fail
    refine (Msg.awake_any w).mono ?_; rintro e w1 ⟨rfl, hb1⟩
    have HB1 := Lib.hid hb1
    clear hb1
    go_wp2_with fail
    refine (hm1.out _).mono ?_; rintro e w2 ⟨rfl, hb2⟩
    have HB2 := box_in hb2
    clear hb2
    have da := (HB2.out.1).cell 0; have db := (HB2.out.1).cell 1; have dc := (HB2.out.1).cell 2; have dd := (HB2.out.1).cell 3; have de := (HB2.out.1).cell 4; have df := (HB2.out.1).cell 5; have dg := (HB2.out.1).cell 6; have di := (HB2.out.1).free 1; have dj := (HB2.out.1).free 2; have dk := (HB2.out.1).free 3; have dl := (HB2.out.1).free 4; have dm := (HB2.out.1).free 6; simp only [List.getElem?_toArray, List.getElem?_cons_zero, List.getElem?_cons_succ] at da db dc dd de df dg
    go_wp2_with (go_at_call 33; refine (hm2.out _).mono ?_; rintro e w3 ⟨rfl, hb3⟩)
    go_ret
    exact ⟨rfl, up_set HB1.out HB2.out.2.1 hb3⟩
  | true =>
    have hm2 := Lib.hid fun W => may_msg k 0 1099511627777 0 0 none 0 0 false W (by rcases hk with rfl | rfl | rfl | rfl <;> rfl) (by omega)
    go_enter Try.func12, Try.ntmps12
    go_wp2_with fail
    refine (Msg.awake_any w).mono ?_; rintro e w1 ⟨rfl, hb1⟩
    have HB1 := Lib.hid hb1
    clear hb1
    go_wp2_with fail
    refine (hm1.out _).mono ?_; rintro e w2 ⟨rfl, hb2⟩
    have HB2 := box_in hb2
    clear hb2
    have da := (HB2.out.1).cell 0; have db := (HB2.out.1).cell 1; have dc := (HB2.out.1).cell 2; have dd := (HB2.out.1).cell 3; have de := (HB2.out.1).cell 4; have df := (HB2.out.1).cell 5; have dg := (HB2.out.1).cell 6; have di := (HB2.out.1).free 1; have dj := (HB2.out.1).free 2; have dk := (HB2.out.1).free 3; have dl := (HB2.out.1).free 4; have dm := (HB2.out.1).free 6; simp only [List.getElem?_toArray, List.getElem?_cons_zero, List.getElem?_cons_succ] at da db dc dd de df dg
    go_wp2_with (go_at_call 33; refine (hm2.out _).mono ?_; rintro e w3 ⟨rfl, hb3⟩)
    go_ret
    exact ⟨rfl, up_set HB1.out HB2.out.2.1 hb3⟩
set_option maxHeartbeats 1000000 in
theorem walkA2 (z q : Int) (b : Bool) (k : Nat) (hk : k = 1 ∨ k = 1 ∨ k = 1 ∨ k = 1) (hz : z.tmod 5 + 1 = (k : Int)) (w : World) (hq : q.tmod 5 = 2) :
    Calls Try.prog 12 #[.int .u8 z, .int .u8 q, .bool b] w fun e w' => e = .returned (.bool true) ∧ Below w.heap.size w w' := by
  have h1 : IntKind.u8.wrap (1 + z.tmod 5) = (k : Int) := by rw [Int.add_comm, hz]; rcases hk with rfl | rfl | rfl | rfl <;> rfl
  have h2 : ((k : Int) == 4) = false := by rcases hk with rfl | rfl | rfl | rfl <;> rfl
  have hm1 := Lib.hid fun W => may_msg k 0 1 0 0 none 0 0 true W (by rcases hk with rfl | rfl | rfl | rfl <;> rfl) (by omega)
  have h4 : ((k : Int) != 1) = false := by rcases hk with rfl | rfl | rfl | rfl <;> rfl
  clear hz
  cases b with
  | false =>
    have hm2 := Lib.hid fun W => may_msg k 0 1 2147483648 0 none 0 0 true W (by rcases hk with rfl | rfl | rfl | rfl <;> rfl) (by omega)
    go_enter Try.func12, Try.ntmps12
    go_wp2_with fail
    refine (Msg.awake_any w).mono ?_; rintro e w1 ⟨rfl, hb1⟩
    have HB1 := Lib.hid hb1
    clear hb1
    go_wp2_with fail
    refine (hm1.out _).mono ?_; rintro e w2 ⟨rfl, hb2⟩
    have HB2 := box_in hb2
    clear hb2
    have da := (HB2.out.1).cell 0; have db := (HB2.out.1).cell 1; have dc := (HB2.out.1).cell 2; have dd := (HB2.out.1).cell 3; have de := (HB2.out.1).cell 4; have df := (HB2.out.1).cell 5; have dg := (HB2.out.1).cell 6; have di := (HB2.out.1).free 1; have dj := (HB2.out.1).free 2; have dk := (HB2.out.1).free 3; have dl := (HB2.out.1).free 4; have dm := (HB2.out.1).free 6; simp only [List.getElem?_toArray, List.getElem?_cons_zero, List.getElem?_cons_succ] at da db dc dd de df dg
    go_wp2_with (go_at_call 33; refine (hm2.out _).mono ?_; rintro e w3 ⟨rfl, hb3⟩)
    go_ret
    exact ⟨rfl, up_set HB1.out HB2.out.2.1 hb3⟩
  | true =>
    have hm2 := Lib.hid fun W => may_msg k 0 1 2147483649 0 none 0 0 false W (by rcases hk with rfl | rfl | rfl | rfl <;> rfl) (by omega)
    go_enter Try.func12, Try.ntmps12
    go_wp2_with fail
    refine (Msg.awake_any w).mono ?_; rintro e w1 ⟨rfl, hb1⟩
    have HB1 := Lib.hid hb1
    clear hb1
    go_wp2_with fail
    refine (hm1.out _).mono ?_; rintro e w2 ⟨rfl, hb2⟩
    have HB2 := box_in hb2
    clear hb2
    have da := (HB2.out.1).cell 0; have db := (HB2.out.1).cell 1; have dc := (HB2.out.1).cell 2; have dd := (HB2.out.1).cell 3; have de := (HB2.out.1).cell 4; have df := (HB2.out.1).cell 5; have dg := (HB2.out.1).cell 6; have di := (HB2.out.1).free 1; have dj := (HB2.out.1).free 2; have dk := (HB2.out.1).free 3; have dl := (HB2.out.1).free 4; have dm := (HB2.out.1).free 6; simp only [List.getElem?_toArray, List.getElem?_cons_zero, List.getElem?_cons_succ] at da db dc dd de df dg
    go_wp2_with (go_at_call 33; refine (hm2.out _).mono ?_; rintro e w3 ⟨rfl, hb3⟩)
    go_ret
    exact ⟨rfl, up_set HB1.out HB2.out.2.1 hb3⟩
set_option maxHeartbeats 1000000 in
theorem walkA2n (z q : Int) (b : Bool) (k : Nat) (hk : k = 2 ∨ k = 3 ∨ k = 5 ∨ k = 5) (hz : z.tmod 5 + 1 = (k : Int)) (w : World) (hq : q.tmod 5 = 2) :
    Calls Try.prog 12 #[.int .u8 z, .int .u8 q, .bool b] w fun e w' => e = .returned (.bool true) ∧ Below w.heap.size w w' := by
  have h1 : IntKind.u8.wrap (1 + z.tmod 5) = (k : Int) := by rw [Int.add_comm, hz]; rcases hk with rfl | rfl | rfl | rfl <;> rfl
  have h2 : ((k : Int) == 4) = false ∧ ((k : Int) != 4) = true := by rcases hk with rfl | rfl | rfl | rfl <;> exact ⟨rfl, rfl⟩
  obtain ⟨h2, h3⟩ := h2
  have h4 : ((k : Int) != 1) = true := by rcases hk with rfl | rfl | rfl | rfl <;> rfl
  have hm1 := Lib.hid fun W => may_msg k 0 1 0 0 none 0 0 true W (by rcases hk with rfl | rfl | rfl | rfl <;> rfl) (by omega)
  clear hz
  cases b <;> (
    go_enter Try.func12, Try.ntmps12
    go_wp2_with fail
    refine (Msg.awake_any w).mono ?_; rintro e w1 ⟨rfl, hb1⟩
    have HB1 := Lib.hid hb1
    clear hb1
    go_wp2_with fail
    refine (hm1.out _).mono ?_; rintro e w2 ⟨rfl, hb2⟩
    have HB2 := box_in hb2
    clear hb2
    go_wp2
    go_ret
    exact ⟨rfl, ext_under HB1.out (Nat.le_refl _) HB2.out.2.1⟩)
set_option maxHeartbeats 1000000 in
theorem walkA3 (z q : Int) (b : Bool) (k : Nat) (hk : k = 3 ∨ k = 3 ∨ k = 3 ∨ k = 3) (hz : z.tmod 5 + 1 = (k : Int)) (w : World) (hq : q.tmod 5 = 3) :
    Calls Try.prog 12 #[.int .u8 z, .int .u8 q, .bool b] w fun e w' => e = .returned (.bool true) ∧ Below w.heap.size w w' := by
  have h1 : IntKind.u8.wrap (1 + z.tmod 5) = (k : Int) := by rw [Int.add_comm, hz]; rcases hk with rfl | rfl | rfl | rfl <;> rfl
  have h2 : ((k : Int) == 4) = false := by rcases hk with rfl | rfl | rfl | rfl <;> rfl
  have hm1 := Lib.hid fun W => may_msg k 0 1 0 0 none 0 0 true W (by rcases hk with rfl | rfl | rfl | rfl <;> rfl) (by omega)
  have h4 : ((k : Int) != 3) = false := by rcases hk with rfl | rfl | rfl | rfl <;> rfl
  clear hz
  cases b with
  | false =>
    have hm2 := Lib.hid fun W => may_msg k 0 1 0 1099511627776 none 0 0 true W (by rcases hk with rfl | rfl | rfl | rfl <;> rfl) (by omega)
    go_enter Try.func12, Try.ntmps12
    go_wp2_with fail
    refine (Msg.awake_any w).mono ?_; rintro e w1 ⟨rfl, hb1⟩
    have HB1 := Lib.hid hb1
    clear hb1
    go_wp2_with fail
    refine (hm1.out _).mono ?_; rintro e w2 ⟨rfl, hb2⟩
    have HB2 := box_in hb2
    clear hb2
    have da := (HB2.out.1).cell 0; have db := (HB2.out.1).cell 1; have dc := (HB2.out.1).cell 2; have dd := (HB2.out.1).cell 3; have de := (HB2.out.1).cell 4; have df := (HB2.out.1).cell 5; have dg := (HB2.out.1).cell 6; have di := (HB2.out.1).free 1; have dj := (HB2.out.1).free 2; have dk := (HB2.out.1).free 3; have dl := (HB2.out.1).free 4; have dm := (HB2.out.1).free 6; simp only [List.getElem?_toArray, List.getElem?_cons_zero, List.getElem?_cons_succ] at da db dc dd de df dg
    go_wp2_with (go_at_call 33; refine (hm2.out _).mono ?_; rintro e w3 ⟨rfl, hb3⟩)
    go_ret
    exact ⟨rfl, up_set HB1.out HB2.out.2.1 hb3⟩
  | true =>
    have hm2 := Lib.hid fun W => may_msg k 0 1 0 1099511627777 none 0 0 false W (by rcases hk with rfl | rfl | rfl | rfl <;> rfl) (by omega)
    go_enter Try.func12, Try.ntmps12
    go_wp2_with fail
    refine (Msg.awake_any w).mono ?_; rintro e w1 ⟨rfl, hb1⟩
    have HB1 := Lib.hid hb1
    clear hb1
    go_wp2_with fail
    refine (hm1.out _).mono ?_; rintro e w2 ⟨rfl, hb2⟩
    have HB2 := box_in hb2
    clear hb2
    have da := (HB2.out.1).cell 0; have db := (HB2.out.1).cell 1; have dc := (HB2.out.1).cell 2; have dd := (HB2.out.1).cell 3; have de := (HB2.out.1).cell 4; have df := (HB2.out.1).cell 5; have dg := (HB2.out.1).cell 6; have di := (HB2.out.1).free 1; have dj := (HB2.out.1).free 2; have dk := (HB2.out.1).free 3; have dl := (HB2.out.1).free 4; have dm := (HB2.out.1).free 6; simp only [List.getElem?_toArray, List.getElem?_cons_zero, List.getElem?_cons_succ] at da db dc dd de df dg
    go_wp2_with (go_at_call 33; refine (hm2.out _).mono ?_; rintro e w3 ⟨rfl, hb3⟩)
    go_ret
    exact ⟨rfl, up_set HB1.out HB2.out.2.1 hb3⟩
set_option maxHeartbeats 1000000 in
theorem walkA3n (z q : Int) (b : Bool) (k : Nat) (hk : k = 1 ∨ k = 2 ∨ k = 5 ∨ k = 5) (hz : z.tmod 5 + 1 = (k : Int)) (w : World) (hq : q.tmod 5 = 3) :
    Calls Try.prog 12 #[.int .u8 z, .int .u8 q, .bool b] w fun e w' => e = .returned (.bool true) ∧ Below w.heap.size w w' := by
  have h1 : IntKind.u8.wrap (1 + z.tmod 5) = (k : Int) := by rw [Int.add_comm, hz]; rcases hk with rfl | rfl | rfl | rfl <;> rfl
  have h2 : ((k : Int) == 4) = false ∧ ((k : Int) != 4) = true := by rcases hk with rfl | rfl | rfl | rfl <;> exact ⟨rfl, rfl⟩
  obtain ⟨h2, h3⟩ := h2
  have h4 : ((k : Int) != 3) = true := by rcases hk with rfl | rfl | rfl | rfl <;> rfl
  have hm1 := Lib.hid fun W => may_msg k 0 1 0 0 none 0 0 true W (by rcases hk with rfl | rfl | rfl | rfl <;> rfl) (by omega)
  clear hz
  cases b <;> (
    go_enter Try.func12, Try.ntmps12
    go_wp2_with fail
    refine (Msg.awake_any w).mono ?_; rintro e w1 ⟨rfl, hb1⟩
    have HB1 := Lib.hid hb1
    clear hb1
    go_wp2_with fail
    refine (hm1.out _).mono ?_; rintro e w2 ⟨rfl, hb2⟩
    have HB2 := box_in hb2
    clear hb2
    go_wp2
    go_ret
    exact ⟨rfl, ext_under HB1.out (Nat.le_refl _) HB2.out.2.1⟩)
set_option maxHeartbeats 1000000 in
theorem walkA4 (z q : Int) (b : Bool) (k : Nat) (hk : k = 1 ∨ k = 2 ∨ k = 3 ∨ k = 5) (hz : z.tmod 5 + 1 = (k : Int)) (w : World) (hq : q.tmod 5 = 4) :
    Calls Try.prog 12 #[.int .u8 z, .int .u8 q, .bool b] w fun e w' => e = .returned (.bool true) ∧ Below w.heap.size w w' := by
  have h1 : IntKind.u8.wrap (1 + z.tmod 5) = (k : Int) := by rw [Int.add_comm, hz]; rcases hk with rfl | rfl | rfl | rfl <;> rfl
  have h2 : ((k : Int) == 4) = false ∧ ((k : Int) != 4) = true := by rcases hk with rfl | rfl | rfl | rfl <;> exact ⟨rfl, rfl⟩
  obtain ⟨h2, h3⟩ := h2
  have h4 : ((k : Int) != 4) = true := by rcases hk with rfl | rfl | rfl | rfl <;> rfl
  have hm1 := Lib.hid fun W => may_msg k 0 1 0 0 none 0 0 true W (by rcases hk with rfl | rfl | rfl | rfl <;> rfl) (by omega)
  clear hz
  cases b <;> (
    go_enter Try.func12, Try.ntmps12
    go_wp2_with fail
    refine (Msg.awake_any w).mono ?_; rintro e w1 ⟨rfl, hb1⟩
    have HB1 := Lib.hid hb1
    clear hb1
    go_wp2_with fail
    refine (hm1.out _).mono ?_; rintro e w2 ⟨rfl, hb2⟩
    have HB2 := box_in hb2
    clear hb2
    go_wp2
    go_ret
    exact ⟨rfl, ext_under HB1.out (Nat.le_refl _) HB2.out.2.1⟩)
theorem box2 {w1 w2 : World} {t t' : TypeId} {cs ds : Array Value} (hb : Below ((w1.alloc (.cells cs t)).alloc (.cells ds t')).heap.size ((w1.alloc (.cells cs t)).alloc (.cells ds t')) w2) : Hid (Blk w2 w1.heap.size t cs ∧ Below w1.heap.size w1 w2 ∧ w1.heap.size + 1 < w2.heap.size) :=
  ⟨((Blk.new w1 t cs).alloc _).ext hb, (((below_1 w1 _).alloc (by simp) _)).trans (hb.mono (by simp; omega)), by have := hb.size; simp at this; omega⟩
set_option maxHeartbeats 1000000 in
theorem walkB0 (z q : Int) (b : Bool) (hz : z.tmod 5 = 3) (w : World) (hq : q.tmod 5 = 0) :
    Calls Try.prog 12 #[.int .u8 z, .int .u8 q, .bool b] w fun e w' => e = .returned (.bool true) ∧ Below w.heap.size w w' := by
  have hm1 := Lib.hid fun A W => may_msg 4 0 1 0 1 A 1 1 true W rfl (by omega)
  cases b with
  | false =>
    have hm2 := Lib.hid fun A W => may_msg 4 5 1 0 1 A 1 1 true W rfl (by omega)
    go_enter Try.func12, Try.ntmps12; go_wp2_with fail; refine (Msg.awake_any w).mono ?_; rintro e w1 ⟨rfl, hb1⟩; have HB1 := Lib.hid hb1; clear hb1; go_wp2_with fail; refine (hm1.out _ _).mono ?_; rintro e w2 ⟨rfl, hb2⟩; have HB2 := box2 hb2; clear hb2
    have da := (HB2.out.1).cell 0; have db := (HB2.out.1).cell 1; have dc := (HB2.out.1).cell 2; have dd := (HB2.out.1).cell 3; have de := (HB2.out.1).cell 4; have df := (HB2.out.1).cell 5; have dg := (HB2.out.1).cell 6; have di := (HB2.out.1).free 1; have dj := (HB2.out.1).free 2; have dk := (HB2.out.1).free 3; have dl := (HB2.out.1).free 4; have dm := (HB2.out.1).free 6; simp only [List.getElem?_toArray, List.getElem?_cons_zero, List.getElem?_cons_succ] at da db dc dd de df dg
    go_wp2_with (go_at_call 33; refine (hm2.out _ _).mono ?_; rintro e w3 ⟨rfl, hb3⟩)
    go_ret
    exact ⟨rfl, up_set HB1.out HB2.out.2.1 hb3⟩
  | true =>
    have hm2 := Lib.hid fun A W => may_msg 4 6 1 0 1 A 1 1 false W rfl (by omega)
    go_enter Try.func12, Try.ntmps12; go_wp2_with fail; refine (Msg.awake_any w).mono ?_; rintro e w1 ⟨rfl, hb1⟩; have HB1 := Lib.hid hb1; clear hb1; go_wp2_with fail; refine (hm1.out _ _).mono ?_; rintro e w2 ⟨rfl, hb2⟩; have HB2 := box2 hb2; clear hb2
    have da := (HB2.out.1).cell 0; have db := (HB2.out.1).cell 1; have dc := (HB2.out.1).cell 2; have dd := (HB2.out.1).cell 3; have de := (HB2.out.1).cell 4; have df := (HB2.out.1).cell 5; have dg := (HB2.out.1).cell 6; have di := (HB2.out.1).free 1; have dj := (HB2.out.1).free 2; have dk := (HB2.out.1).free 3; have dl := (HB2.out.1).free 4; have dm := (HB2.out.1).free 6; simp only [List.getElem?_toArray, List.getElem?_cons_zero, List.getElem?_cons_succ] at da db dc dd de df dg
    go_wp2_with (go_at_call 33; refine (hm2.out _ _).mono ?_; rintro e w3 ⟨rfl, hb3⟩)
    go_ret
    exact ⟨rfl, up_set HB1.out HB2.out.2.1 hb3⟩
set_option maxHeartbeats 1000000 in
theorem walkB1 (z q : Int) (b : Bool) (hz : z.tmod 5 = 3) (w : World) (hq : q.tmod 5 = 1) :
    Calls Try.prog 12 #[.int .u8 z, .int .u8 q, .bool b] w fun e w' => e = .returned (.bool true) ∧ Below w.heap.size w w' := by
  have hm1 := Lib.hid fun A W => may_msg 4 0 1 0 1 A 1 1 true W rfl (by omega)
  cases b with
  | false =>
    have hm2 := Lib.hid fun A W => may_msg 4 0 1099511627776 0 1 A 1 1 true W rfl (by omega)
    go_enter Try.func12, Try.ntmps12; go_wp2_with fail; refine (Msg.awake_any w).mono ?_; rintro e w1 ⟨rfl, hb1⟩; have HB1 := Lib.hid hb1; clear hb1; go_wp2_with fail; refine (hm1.out _ _).mono ?_; rintro e w2 ⟨rfl, hb2⟩; have HB2 := box2 hb2; clear hb2
    have da := (HB2.out.1).cell 0; have db := (HB2.out.1).cell 1; have dc := (HB2.out.1).cell 2; have dd := (HB2.out.1).cell 3; have de := (HB2.out.1).cell 4; have df := (HB2.out.1).cell 5; have dg := (HB2.out.1).cell 6; have di := (HB2.out.1).free 1; have dj := (HB2.out.1).free 2; have dk := (HB2.out.1).free 3; have dl := (HB2.out.1).free 4; have dm := (HB2.out.1).free 6; simp only [List.getElem?_toArray, List.getElem?_cons_zero, List.getElem?_cons_succ] at da db dc dd de df dg
    go_wp2_with (go_at_call 33; refine (hm2.out _ _).mono ?_; rintro e w3 ⟨rfl, hb3⟩)
    go_ret
    exact ⟨rfl, up_set HB1.out HB2.out.2.1 hb3⟩
  | true =>
    have hm2 := Lib.hid fun A W => may_msg 4 0 1099511627777 0 1 A 1 1 false W rfl (by omega)
    go_enter Try.func12, Try.ntmps12; go_wp2_with fail; refine (Msg.awake_any w).mono ?_; rintro e w1 ⟨rfl, hb1⟩; have HB1 := Lib.hid hb1; clear hb1; go_wp2_with fail; refine (hm1.out _ _).mono ?_; rintro e w2 ⟨rfl, hb2⟩; have HB2 := box2 hb2; clear hb2
    have da := (HB2.out.1).cell 0; have db := (HB2.out.1).cell 1; have dc := (HB2.out.1).cell 2; have dd := (HB2.out.1).cell 3; have de := (HB2.out.1).cell 4; have df := (HB2.out.1).cell 5; have dg := (HB2.out.1).cell 6; have di := (HB2.out.1).free 1; have dj := (HB2.out.1).free 2; have dk := (HB2.out.1).free 3; have dl := (HB2.out.1).free 4; have dm := (HB2.out.1).free 6; simp only [List.getElem?_toArray, List.getElem?_cons_zero, List.getElem?_cons_succ] at da db dc dd de df dg
    go_wp2_with (go_at_call 33; refine (hm2.out _ _).mono ?_; rintro e w3 ⟨rfl, hb3⟩)
    go_ret
    exact ⟨rfl, up_set HB1.out HB2.out.2.1 hb3⟩
set_option maxHeartbeats 1000000 in
theorem walkB3 (z q : Int) (b : Bool) (hz : z.tmod 5 = 3) (w : World) (hq : q.tmod 5 = 3) :
    Calls Try.prog 12 #[.int .u8 z, .int .u8 q, .bool b] w fun e w' => e = .returned (.bool true) ∧ Below w.heap.size w w' := by
  have hm1 := Lib.hid fun A W => may_msg 4 0 1 0 1 A 1 1 true W rfl (by omega)
  cases b with
  | false =>
    have hm2 := Lib.hid fun A W => may_msg 4 0 1 0 1099511627776 A 1 1 true W rfl (by omega)
    go_enter Try.func12, Try.ntmps12; go_wp2_with fail; refine (Msg.awake_any w).mono ?_; rintro e w1 ⟨rfl, hb1⟩; have HB1 := Lib.hid hb1; clear hb1; go_wp2_with fail; refine (hm1.out _ _).mono ?_; rintro e w2 ⟨rfl, hb2⟩; have HB2 := box2 hb2; clear hb2
    have da := (HB2.out.1).cell 0; have db := (HB2.out.1).cell 1; have dc := (HB2.out.1).cell 2; have dd := (HB2.out.1).cell 3; have de := (HB2.out.1).cell 4; have df := (HB2.out.1).cell 5; have dg := (HB2.out.1).cell 6; have di := (HB2.out.1).free 1; have dj := (HB2.out.1).free 2; have dk := (HB2.out.1).free 3; have dl := (HB2.out.1).free 4; have dm := (HB2.out.1).free 6; simp only [List.getElem?_toArray, List.getElem?_cons_zero, List.getElem?_cons_succ] at da db dc dd de df dg
    go_wp2_with (go_at_call 33; refine (hm2.out _ _).mono ?_; rintro e w3 ⟨rfl, hb3⟩)
    go_ret
    exact ⟨rfl, up_set HB1.out HB2.out.2.1 hb3⟩
  | true =>
    have hm2 := Lib.hid fun A W => may_msg 4 0 1 0 1099511627777 A 1 1 false W rfl (by omega)
    go_enter Try.func12, Try.ntmps12; go_wp2_with fail; refine (Msg.awake_any w).mono ?_; rintro e w1 ⟨rfl, hb1⟩; have HB1 := Lib.hid hb1; clear hb1; go_wp2_with fail; refine (hm1.out _ _).mono ?_; rintro e w2 ⟨rfl, hb2⟩; have HB2 := box2 hb2; clear hb2
    have da := (HB2.out.1).cell 0; have db := (HB2.out.1).cell 1; have dc := (HB2.out.1).cell 2; have dd := (HB2.out.1).cell 3; have de := (HB2.out.1).cell 4; have df := (HB2.out.1).cell 5; have dg := (HB2.out.1).cell 6; have di := (HB2.out.1).free 1; have dj := (HB2.out.1).free 2; have dk := (HB2.out.1).free 3; have dl := (HB2.out.1).free 4; have dm := (HB2.out.1).free 6; simp only [List.getElem?_toArray, List.getElem?_cons_zero, List.getElem?_cons_succ] at da db dc dd de df dg
    go_wp2_with (go_at_call 33; refine (hm2.out _ _).mono ?_; rintro e w3 ⟨rfl, hb3⟩)
    go_ret
    exact ⟨rfl, up_set HB1.out HB2.out.2.1 hb3⟩
set_option maxHeartbeats 1000000 in
theorem walkB2 (z q : Int) (b : Bool) (hz : z.tmod 5 = 3) (w : World) (hq : q.tmod 5 = 2) :
    Calls Try.prog 12 #[.int .u8 z, .int .u8 q, .bool b] w fun e w' => e = .returned (.bool true) ∧ Below w.heap.size w w' := by
  have hm1 := Lib.hid fun A W => may_msg 4 0 1 0 1 A 1 1 true W rfl (by omega)
  cases b <;> (
    go_enter Try.func12, Try.ntmps12; go_wp2_with fail; refine (Msg.awake_any w).mono ?_; rintro e w1 ⟨rfl, hb1⟩; have HB1 := Lib.hid hb1; clear hb1; go_wp2_with fail; refine (hm1.out _ _).mono ?_; rintro e w2 ⟨rfl, hb2⟩; have HB2 := box2 hb2; clear hb2
    go_wp2
    go_ret
    exact ⟨rfl, ext_under HB1.out (Nat.le_refl _) HB2.out.2.1⟩)
set_option maxHeartbeats 1000000 in
theorem walkB4false (z q : Int) (hz : z.tmod 5 = 3) (w : World) (hq : q.tmod 5 = 4) :
    Calls Try.prog 12 #[.int .u8 z, .int .u8 q, .bool false] w fun e w' => e = .returned (.bool true) ∧ Below w.heap.size w w' := by
  have hm1 := Lib.hid fun A W => may_msg 4 0 1 0 1 A 1 1 true W rfl (by omega)
  obtain ⟨i0, hi, hz0, hz1, hz2⟩ := info_parts Word.byInfo
  have hm2 := Lib.hid fun A W => may_msg 4 0 1 0 1 A 48 48 true W (by rfl) (by omega)
  go_enter Try.func12, Try.ntmps12; go_wp2_with fail; refine (Msg.awake_any w).mono ?_; rintro e w1 ⟨rfl, hb1⟩; have HB1 := Lib.hid hb1; clear hb1; go_wp2_with fail; refine (hm1.out _ _).mono ?_; rintro e w2 ⟨rfl, hb2⟩; have HB2 := box2 hb2; clear hb2
  go_wp2_with (at_make; refine wpList_make_full _ rfl _ _ 22 rfl w2.heap.size 5 i0 _ 1 Try.underlying22 hi hz0 hz1 _ _ _ _ 48 rfl rfl (by rfl) (by rfl) (by rw [hz2]; decide) (by decide) (Nat.le_refl _) ?_; intro w6 hmk hgr; have HM : Hid (Blk w6 w1.heap.size 56 #[.int .u8 4, .int .i64 0, .int .i64 1, .int .i64 0, .int .i64 1, .bool false, .slice (some ⟨w1.heap.size + 1, 0, none⟩) 1 1] ∧ Below w1.heap.size w1 w6) := ⟨HB2.out.1.ext ((Below.refl _ _).grown hgr (Nat.le_refl _) (by simp)), HB2.out.2.1.grown hgr HB2.out.2.1.size (by simp)⟩; clear hmk hgr; have da := (HM.out.1).cell 0; have db := (HM.out.1).cell 1; have dc := (HM.out.1).cell 2; have dd := (HM.out.1).cell 3; have de := (HM.out.1).cell 4; have df := (HM.out.1).cell 5; have dg := (HM.out.1).cell 6; have di := (HM.out.1).free 1; have dj := (HM.out.1).free 2; have dk := (HM.out.1).free 3; have dl := (HM.out.1).free 4; have dm := (HM.out.1).free 6; simp only [List.getElem?_toArray, List.getElem?_cons_zero, List.getElem?_cons_succ] at da db dc dd de df dg)
  refine (hm2.out _ _).mono ?_; rintro e w3 ⟨rfl, hb3⟩
  go_wp2
  go_ret
  exact ⟨rfl, up_set HB1.out HM.out.2 hb3⟩
set_option maxHeartbeats 1000000 in
theorem walkB4true (z q : Int) (hz : z.tmod 5 = 3) (w : World) (hq : q.tmod 5 = 4) :
    Calls Try.prog 12 #[.int .u8 z, .int .u8 q, .bool true] w fun e w' => e = .returned (.bool true) ∧ Below w.heap.size w w' := by
  have hm1 := Lib.hid fun A W => may_msg 4 0 1 0 1 A 1 1 true W rfl (by omega)
  obtain ⟨i0, hi, hz0, hz1, hz2⟩ := info_parts Word.byInfo
  have hm2 := Lib.hid fun A W => may_msg 4 0 1 0 1 A 49 49 false W (by rfl) (by omega)
  go_enter Try.func12, Try.ntmps12; go_wp2_with fail; refine (Msg.awake_any w).mono ?_; rintro e w1 ⟨rfl, hb1⟩; have HB1 := Lib.hid hb1; clear hb1; go_wp2_with fail; refine (hm1.out _ _).mono ?_; rintro e w2 ⟨rfl, hb2⟩; have HB2 := box2 hb2; clear hb2
  go_wp2_with (at_make; refine wpList_make_full _ rfl _ _ 22 rfl w2.heap.size 5 i0 _ 1 Try.underlying22 hi hz0 hz1 _ _ _ _ 49 rfl rfl (by rfl) (by rfl) (by rw [hz2]; decide) (by decide) (Nat.le_refl _) ?_; intro w6 hmk hgr; have HM : Hid (Blk w6 w1.heap.size 56 #[.int .u8 4, .int .i64 0, .int .i64 1, .int .i64 0, .int .i64 1, .bool false, .slice (some ⟨w1.heap.size + 1, 0, none⟩) 1 1] ∧ Below w1.heap.size w1 w6) := ⟨HB2.out.1.ext ((Below.refl _ _).grown hgr (Nat.le_refl _) (by simp)), HB2.out.2.1.grown hgr HB2.out.2.1.size (by simp)⟩; clear hmk hgr; have da := (HM.out.1).cell 0; have db := (HM.out.1).cell 1; have dc := (HM.out.1).cell 2; have dd := (HM.out.1).cell 3; have de := (HM.out.1).cell 4; have df := (HM.out.1).cell 5; have dg := (HM.out.1).cell 6; have di := (HM.out.1).free 1; have dj := (HM.out.1).free 2; have dk := (HM.out.1).free 3; have dl := (HM.out.1).free 4; have dm := (HM.out.1).free 6; simp only [List.getElem?_toArray, List.getElem?_cons_zero, List.getElem?_cons_succ] at da db dc dd de df dg)
  refine (hm2.out _ _).mono ?_; rintro e w3 ⟨rfl, hb3⟩
  go_wp2
  go_ret
  exact ⟨rfl, up_set HB1.out HM.out.2 hb3⟩
theorem walk (z q : Int) (b : Bool) (hz0 : 0 ≤ z) (hq0 : 0 ≤ q) (w : World) :
    Calls Try.prog 12 #[.int .u8 z, .int .u8 q, .bool b] w fun e w' => e = .returned (.bool true) ∧ Below w.heap.size w w' := by
  by_cases h3 : z.tmod 5 = 3
  · rcases tmod5 hq0 with hq | hq | hq | hq | hq
    · exact walkB0 z q b h3 w hq
    · exact walkB1 z q b h3 w hq
    · exact walkB2 z q b h3 w hq
    · exact walkB3 z q b h3 w hq
    · cases b with
      | false => exact walkB4false z q h3 w hq
      | true => exact walkB4true z q h3 w hq
  · have hk : ∃ k : Nat, (k = 1 ∨ k = 2 ∨ k = 3 ∨ k = 5) ∧ z.tmod 5 + 1 = (k : Int) := by
      rcases tmod5 hz0 with h | h | h | h | h
      · exact ⟨1, by omega, by omega⟩
      · exact ⟨2, by omega, by omega⟩
      · exact ⟨3, by omega, by omega⟩
      · exact absurd h h3
      · exact ⟨5, by omega, by omega⟩
    obtain ⟨k, hk, hz⟩ := hk
    rcases tmod5 hq0 with hq | hq | hq | hq | hq
    · exact walkA0 z q b k hk hz w hq
    · exact walkA1 z q b k hk hz w hq
    · by_cases h1 : k = 1
      · exact walkA2 z q b k (by omega) hz w hq
      · exact walkA2n z q b k (by omega) hz w hq
    · by_cases h1 : k = 3
      · exact walkA3 z q b k (by omega) hz w hq
      · exact walkA3n z q b k (by omega) hz w hq
    · exact walkA4 z q b k hk hz w hq
theorem u8_wf {z : Int} (h : (Lit.int .u8 z).wf = true) : 0 ≤ z := by
  have : 0 ≤ z ∧ z ≤ 255 := by simpa [Lit.wf, IntKind.min, IntKind.max, IntKind.signed, IntKind.bits] using h
  exact this.1
set_option maxRecDepth 100000 in
theorem lifted (os : Os) (started : os.Started) (H : Type) (enc : TypeId × Value → H) :
    ReturnsInHanded {} Try.checked os 12 .any (Rows.messageBoundsSpec.pre6 enc Try.prog Try.f12 Rows.messageBoundsRow.domain false) (Rows.messageBoundsSpec.post enc Try.prog Try.f12 false true false false) := by
  refine returnsInHanded_of_change_sized (C := Try.checked) own started (by kernel_rfl) Try.func12
    (ChangeSpec.witness6 (enc := enc) (C := Try.checked) false ⟨#[], #[.int .u8 0, .int .u8 0, .bool false], []⟩ 8 (by kernel_rfl) (by kernel_rfl) (by kernel_rfl) (by kernel_rfl)) ?_
  intro W base args ds gs before hval0 hW hcnd hsz0 _
  have hval : ∀ (j : Nat) t v, Try.f12.params[j]? = some t → args[j]? = some v → Value.okWide Try.prog W .any base t v := hval0
  have hW' := hW
  obtain ⟨p, q, hA0, hV, rfl, hfz, hnd⟩ := hW
  have hA : DataW.TrodAll enc Try.prog W 0 (fun _ => true) true Try.f12.params.toList args.toList ds p := hA0
  have hsz : (DataW.weightsEach Try.prog (Try.f12.params.toList ++ []) (ds ++ gs)).all (· ≤ reachBytes) = true := hsz0
  rw [Try.params12] at hA hval hsz
  have hAll := hA
  obtain ⟨v0, vs0, d0, ds0, p0, q0, hargs, rfl, rfl, h0, r0⟩ := trodAll_cons hA
  obtain ⟨v1, vs1, d1, ds1, p1, q1, rfl, rfl, rfl, h1, r1⟩ := trodAll_cons r0
  obtain ⟨v2, vs2, d2, ds2, p2, q2, rfl, rfl, rfl, h2, r2⟩ := trodAll_cons r1
  obtain ⟨rfl, rfl, rfl⟩ := trodAll_nil r2
  obtain rfl : args = #[v0, v1, v2] := by cases args; simp_all
  obtain ⟨rfl, rfl⟩ := trodVars_none hV
  obtain ⟨a, rfl, _, _, a_wf⟩ := open_int Try.underlying5 (hval 0 5 v0 rfl rfl) h0
  obtain ⟨b, rfl, _, _, b_wf⟩ := open_int Try.underlying5 (hval 1 5 v1 rfl rfl) h1
  obtain ⟨c, rfl, _, _⟩ := open_bool Try.underlying4 (hval 2 4 v2 rfl rfl) h2
  refine (walk a b c (u8_wf a_wf) (u8_wf b_wf) W).mono fun e W' ⟨he, bel⟩ => ?_
  subst he
  exact ⟨_, rfl, _, _, _, [], _, [], hW', trodAll_mk1 (shut_bool Try.underlying4 _), keep_args laidOut bel (by kernel_rfl) hAll, rfl, bel.frame _, fun h => by cases h⟩

theorem over : Rows.messageBoundsRow.holds Try.pinned (OpenSpec.ofChange Rows.messageBoundsSpec) :=
  OpenClaim.holds_of_wide 12 Try.f12 rfl rfl rfl rfl rfl rfl rfl ⟨rfl, rfl, rfl, rfl, rfl⟩ rfl rfl rfl rfl rfl (by kernel_rfl) Try.func12 (by kernel_rfl)
    (of_decide_eq_true (by kernel_rfl)) (by unfold Func.isWrapper; first | (rw [if_pos (by decide +kernel)]; kernel_rfl) | (rw [if_neg (by decide +kernel)]; exact ⟨rfl, rfl⟩))
    (fun os started H enc _ => lifted os started H enc)

theorem proved : Rows.MessageBoundsSaid := over
#print axioms proved
end Go.Proofs.Ytiommdidkhohgaa.lawMB
