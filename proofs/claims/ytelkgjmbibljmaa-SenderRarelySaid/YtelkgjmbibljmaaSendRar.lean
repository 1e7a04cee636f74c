/- SenderRarely: without an acknowledgement a piece is sent in the tick at which it was first, and 2, 6, 14, 30 ticks later, and then each 16 ticks: whatever the input, the law returns true and leaves memory as it was. -/
import Derived.Test.YtelkgjmbibljmaaSendJ
import Derived.Test.YtelkgjmbibljmaaLift
import Derived.Outline
import Derived.BigQuiet
import Derived.Deep.QuietTactic
import Derived.Deep.RegionWith
import Derived.Deep.RegionHeld3
import Derived.Deep.DrawnRows
import Derived.Deep.LoopGhost
import Derived.Deep.DeepCutAuto
import Derived.Laws.EntriesVeiled
namespace Go.Proofs.Ytelkgjmbibljmaa.sendRar
open Go.RowKit Go.ChangeShapes Go.WideShapes Go.ChangeAt
set_option linter.unusedVariables false
set_option linter.unusedSimpArgs false
attribute [local go_sem ↓] Go.wp_at_zero Go.wp_at_succ
open Send

def sR (n : Nat) : Nat → St
  | 0 => sendS (lS z0 (rowL n))
  | t + 1 => sendS (tickS (sR n t))
def wantB (t : Nat) : Bool := t == 2 || t == 6 || t == 14 || (decide (30 ≤ t) && (t - 30) % 16 == 0)
/-- all the states, gone through -/
def goodAt (n t : Nat) : Bool :=
  decide (sR n t).Ok && decide (tickS (sR n t)).Ok && (tickO (sR n t)).length == (if wantB (t + 1) then n else 0) && (sendO (tickS (sR n t))).length == 0 && (sR n t).fl.length == n && (sR n t).acked == 0
theorem good_all : ((List.range 4).all fun m => decide (lE z0 (rowL (m + 1)) = 0) && decide (lS z0 (rowL (m + 1))).Ok && (sendO (lS z0 (rowL (m + 1)))).length == m + 1 && (List.range 202).all fun t => goodAt (m + 1) t) = true := by decide +kernel

theorem ack0 (s : St) : ackE s 0 = 0 ∧ ackS s 0 = s := by
  have hb : ackB s 0 = false := by simp [ackB]; omega
  unfold ackE ackS
  rw [hb]
  exact ⟨rfl, by simp; omega⟩

theorem good_start {n : Nat} (h1 : 1 ≤ n) (h4 : n ≤ 4) : lE z0 (rowL n) = 0 ∧ (lS z0 (rowL n)).Ok ∧ (sendO (lS z0 (rowL n))).length = n := by
  have h := List.all_eq_true.1 good_all (n - 1) (by simp; omega)
  rw [show n - 1 + 1 = n from by omega] at h
  simp only [Bool.and_eq_true, decide_eq_true_eq, beq_iff_eq] at h
  exact ⟨h.1.1.1, h.1.1.2, h.1.2⟩
theorem good_at {n t : Nat} (h1 : 1 ≤ n) (h4 : n ≤ 4) (ht : t ≤ 201) : (sR n t).Ok ∧ (tickS (sR n t)).Ok ∧ (tickO (sR n t)).length = (if wantB (t + 1) then n else 0) ∧ (sendO (tickS (sR n t))).length = 0 ∧ (sR n t).fl.length = n := by
  have h := List.all_eq_true.1 good_all (n - 1) (by simp; omega)
  rw [show n - 1 + 1 = n from by omega] at h
  simp only [Bool.and_eq_true] at h
  have h2 := List.all_eq_true.1 h.2 t (by simp; omega)
  simp only [goodAt, Bool.and_eq_true, decide_eq_true_eq, beq_iff_eq] at h2
  exact ⟨h2.1.1.1.1.1, h2.1.1.1.1.2, h2.1.1.1.2, h2.1.1.2, h2.1.2⟩

theorem i64_bounds {n : Int} (h : (Lit.int .i64 n).wf = true) : -9223372036854775808 ≤ n ∧ n ≤ 9223372036854775807 := by simpa [Lit.wf, IntKind.min, IntKind.max, IntKind.signed, IntKind.bits] using h
theorem tests (i : Nat) : ((((i : Int) == 2) = true) ∧ wantB i = true) ∨ ((((i : Int) == 2) = false) ∧ (((i : Int) == 6) = true) ∧ wantB i = true) ∨ ((((i : Int) == 2) = false) ∧ (((i : Int) == 6) = false) ∧ (((i : Int) == 14) = true) ∧ wantB i = true) ∨
    ((((i : Int) == 2) = false) ∧ (((i : Int) == 6) = false) ∧ (((i : Int) == 14) = false) ∧ (30 ≤ (i : Int)) ∧ ((((i : Int) - 30) % 16 == 0) = true) ∧ wantB i = true) ∨
    ((((i : Int) == 2) = false) ∧ (((i : Int) == 6) = false) ∧ (((i : Int) == 14) = false) ∧ (30 ≤ (i : Int)) ∧ ((((i : Int) - 30) % 16 == 0) = false) ∧ wantB i = false) ∨
    ((((i : Int) == 2) = false) ∧ (((i : Int) == 6) = false) ∧ (((i : Int) == 14) = false) ∧ ((i : Int) < 30) ∧ wantB i = false) := by
  by_cases h2 : i = 2
  · subst h2; exact .inl ⟨rfl, by decide⟩
  by_cases h6 : i = 6
  · subst h6; exact .inr (.inl ⟨rfl, rfl, by decide⟩)
  by_cases h14 : i = 14
  · subst h14; exact .inr (.inr (.inl ⟨rfl, rfl, rfl, by decide⟩))
  have a2 : ((i : Int) == 2) = false := by simp; omega
  have a6 : ((i : Int) == 6) = false := by simp; omega
  have a14 : ((i : Int) == 14) = false := by simp; omega
  by_cases h30 : 30 ≤ i
  · by_cases h16 : (i - 30) % 16 = 0
    · exact .inr (.inr (.inr (.inl ⟨a2, a6, a14, by omega, by simp only [beq_iff_eq]; omega, by simp [wantB, h30, h16]⟩)))
    · exact .inr (.inr (.inr (.inr (.inl ⟨a2, a6, a14, by omega, by simp only [beq_eq_false_iff_ne]; omega, by simp [wantB, h2, h6, h14, h16]⟩))))
  · exact .inr (.inr (.inr (.inr (.inr ⟨a2, a6, a14, by omega, by simp [wantB, h2, h6, h14, h30]⟩))))

set_option maxRecDepth 100000 in
set_option maxHeartbeats 4000000 in
theorem walk (n0 k0 : Int) (between : Bool) (w : World) (hn1 : -9223372036854775808 ≤ n0) (hn2 : n0 ≤ 9223372036854775807) (hk1 : -9223372036854775808 ≤ k0) (hk2 : k0 ≤ 9223372036854775807) :
    Calls Try.prog 3 #[.int .i64 n0, .int .i64 k0, .bool between] w fun e w' => e = .returned (.bool true) ∧ Below w.heap.size w w' := by
  obtain ⟨U, hU, hU0⟩ : ∃ U, IntKind.u64.wrap n0 = U ∧ 0 ≤ U := ⟨_, rfl, by simp only [IntKind.wrap, IntKind.signed, IntKind.bits]; simp; omega⟩
  obtain ⟨V, hV, hV0⟩ : ∃ V, IntKind.u64.wrap k0 = V ∧ 0 ≤ V := ⟨_, rfl, by simp only [IntKind.wrap, IntKind.signed, IntKind.bits]; simp; omega⟩
  go_enter Try.func3, Try.ntmps3
  go_wp2_with fail
  refine (awake_any w).mono ?_; rintro e w1 ⟨rfl, hb1⟩
  have HB1 := Lib.hid hb1
  clear hb1
  go_wp2_with fail
  have hq4 : 1 ≤ 1 + U % 4 ∧ 1 + U % 4 ≤ 4 := by omega
  have hv2 : 0 ≤ V % 201 ∧ V % 201 ≤ 200 := by omega
  generalize 1 + U % 4 = q at *
  generalize V % 201 = v at *
  obtain ⟨n, rfl⟩ : ∃ n : Nat, q = (n : Int) := ⟨q.toNat, by omega⟩
  obtain ⟨k, rfl⟩ : ∃ k : Nat, v = (k : Int) := ⟨v.toNat, by omega⟩
  have hn1' : 1 ≤ n := by omega
  have hn4' : n ≤ 4 := by omega
  have hk : k ≤ 200 := by omega
  clear hq4 hv2 hU hV
  obtain ⟨s1, s2, s3⟩ := good_start hn1' hn4'
  have hs := Lib.hid (And.intro s1 (And.intro s2 s3))
  clear s1 s2 s3
  refine (new_any w1).mono ?_; rintro e w' ⟨rfl, rfl⟩
  obtain ⟨F0, S0⟩ : ∃ F, Hid (SIn w (w1.alloc (.cells (mkS (.slice none 0 0) (.slice none 0 0) 0 0 0 2) 42)) w1.heap.size F z0) := ⟨_, SIn.new HB1.out⟩
  generalize w1.alloc (.cells (mkS (.slice none 0 0) (.slice none 0 0) 0 0 0 2) 42) = w2 at *
  obtain ⟨g, hg⟩ : ∃ g, Hid (w1.heap.size = g) := ⟨_, rfl⟩
  rw [hg.out] at S0 ⊢
  go_wp2_with fail
  refine (row_any n w2 (by omega)).mono ?_; rintro e w3 ⟨A, m, cap, cs, rfl, hf, hbl⟩
  have H2 := Lib.hid (And.intro hf hbl)
  clear hf hbl
  go_wp2_with fail
  refine (calls_val (load_row S0.out zok.1 cs A m cap H2.out.1 (rowL n) H2.out.2 (by rw [rowL_len]; omega) (by rw [rowL_len]; simp [z0]; omega)) (by rw [hs.out.1])).mono ?_; rintro e w4 ⟨rfl, F1, S1, _, _⟩
  have S1 := Lib.hid S1
  clear H2
  go_wp2_with fail
  refine (send_in S1.out hs.out.2.1).mono ?_; rintro e w5 ⟨A2, n2, c2, F3, R2, ps2, rfl, O2⟩
  have h2 := O2.len.symm
  rw [hs.out.2.2] at h2
  have HS0 : Hid (SIn w w5 g F3 (sR n 0)) := O2.sin
  clear O2
  subst h2
  go_wp2_with fail
  cases between
  · go_loopg [8] (k + 1) (fun gk v wr => ∃ i : Nat, k + 1 < i + gk + 1 ∧ 1 ≤ i ∧ i ≤ k + 1 ∧ v = .int .i64 i ∧ ∃ F, Hid (SIn w wr g F (sR n (i - 1))))
    case atStart => exact ⟨1, by omega, by omega, by omega, rfl, F3, HS0.out⟩
    case round =>
      obtain ⟨i, hg, hi1, hik, rfl, F, HS⟩ := hrel
      by_cases hlt : i ≤ k
      · obtain ⟨g1, g2, g3, g4, g5⟩ := good_at (t := i - 1) hn1' hn4' (by omega)
        have hii : i - 1 + 1 = i := by omega
        have g4 := Lib.hid g4
        have b1 : (i : Int) ≤ (k : Int) := by omega
        have b2 : (1 : Int) ≤ (i : Int) := by omega
        have b3 : (i : Int) ≤ 201 := by omega
        clear g5
        rcases tests i with ⟨q1, qw⟩ | ⟨q1, q2, qw⟩ | ⟨q1, q2, q3, qw⟩ | ⟨q1, q2, q3, q4, q5, qw⟩ | ⟨q1, q2, q3, q4, q5, qw⟩ | ⟨q1, q2, q3, q4, qw⟩
        · have hcnt : Hid ((tickO (sR n (i - 1))).length = n) := by rw [Hid, g3, hii, qw]; rfl
          clear g3
          go_wp2_with fail
          refine (tick_in HS.out g1).mono ?_; rintro e w4 ⟨A4, n4, c4, F4, R4, ps4, rfl, O4⟩
          have h4 := O4.len.symm
          rw [hcnt.out] at h4
          have O4 := Lib.hid O4
          subst h4
          go_wp2_with fail
          refine (send_in O4.out.sin g2).mono ?_; rintro e w5 ⟨A5, n5, c5, F5, R5, ps5, rfl, O5⟩
          have h5 := O5.len.symm
          rw [g4.out] at h5
          have O5 := Lib.hid O5
          subst h5
          go_wp2
          go_roundg (gk - 1)
          case measure => omega
          case rel => exact ⟨i + 1, by omega, by omega, by omega, by go_num, F5, by rw [Hid, show i + 1 - 1 = (i - 1) + 1 from by omega]; exact O5.out.sin⟩
        · have hcnt : Hid ((tickO (sR n (i - 1))).length = n) := by rw [Hid, g3, hii, qw]; rfl
          clear g3
          go_wp2_with fail
          refine (tick_in HS.out g1).mono ?_; rintro e w4 ⟨A4, n4, c4, F4, R4, ps4, rfl, O4⟩
          have h4 := O4.len.symm
          rw [hcnt.out] at h4
          have O4 := Lib.hid O4
          subst h4
          go_wp2_with fail
          refine (send_in O4.out.sin g2).mono ?_; rintro e w5 ⟨A5, n5, c5, F5, R5, ps5, rfl, O5⟩
          have h5 := O5.len.symm
          rw [g4.out] at h5
          have O5 := Lib.hid O5
          subst h5
          go_wp2
          go_roundg (gk - 1)
          case measure => omega
          case rel => exact ⟨i + 1, by omega, by omega, by omega, by go_num, F5, by rw [Hid, show i + 1 - 1 = (i - 1) + 1 from by omega]; exact O5.out.sin⟩
        · have hcnt : Hid ((tickO (sR n (i - 1))).length = n) := by rw [Hid, g3, hii, qw]; rfl
          clear g3
          go_wp2_with fail
          refine (tick_in HS.out g1).mono ?_; rintro e w4 ⟨A4, n4, c4, F4, R4, ps4, rfl, O4⟩
          have h4 := O4.len.symm
          rw [hcnt.out] at h4
          have O4 := Lib.hid O4
          subst h4
          go_wp2_with fail
          refine (send_in O4.out.sin g2).mono ?_; rintro e w5 ⟨A5, n5, c5, F5, R5, ps5, rfl, O5⟩
          have h5 := O5.len.symm
          rw [g4.out] at h5
          have O5 := Lib.hid O5
          subst h5
          go_wp2
          go_roundg (gk - 1)
          case measure => omega
          case rel => exact ⟨i + 1, by omega, by omega, by omega, by go_num, F5, by rw [Hid, show i + 1 - 1 = (i - 1) + 1 from by omega]; exact O5.out.sin⟩
        · have hcnt : Hid ((tickO (sR n (i - 1))).length = n) := by rw [Hid, g3, hii, qw]; rfl
          clear g3
          go_wp2_with fail
          refine (tick_in HS.out g1).mono ?_; rintro e w4 ⟨A4, n4, c4, F4, R4, ps4, rfl, O4⟩
          have h4 := O4.len.symm
          rw [hcnt.out] at h4
          have O4 := Lib.hid O4
          subst h4
          go_wp2_with fail
          refine (send_in O4.out.sin g2).mono ?_; rintro e w5 ⟨A5, n5, c5, F5, R5, ps5, rfl, O5⟩
          have h5 := O5.len.symm
          rw [g4.out] at h5
          have O5 := Lib.hid O5
          subst h5
          go_wp2
          go_roundg (gk - 1)
          case measure => omega
          case rel => exact ⟨i + 1, by omega, by omega, by omega, by go_num, F5, by rw [Hid, show i + 1 - 1 = (i - 1) + 1 from by omega]; exact O5.out.sin⟩
        · have hcnt : Hid ((tickO (sR n (i - 1))).length = 0) := by rw [Hid, g3, hii, qw]; rfl
          clear g3
          go_wp2_with fail
          refine (tick_in HS.out g1).mono ?_; rintro e w4 ⟨A4, n4, c4, F4, R4, ps4, rfl, O4⟩
          have h4 := O4.len.symm
          rw [hcnt.out] at h4
          have O4 := Lib.hid O4
          subst h4
          go_wp2_with fail
          refine (send_in O4.out.sin g2).mono ?_; rintro e w5 ⟨A5, n5, c5, F5, R5, ps5, rfl, O5⟩
          have h5 := O5.len.symm
          rw [g4.out] at h5
          have O5 := Lib.hid O5
          subst h5
          go_wp2
          go_roundg (gk - 1)
          case measure => omega
          case rel => exact ⟨i + 1, by omega, by omega, by omega, by go_num, F5, by rw [Hid, show i + 1 - 1 = (i - 1) + 1 from by omega]; exact O5.out.sin⟩
        · have hcnt : Hid ((tickO (sR n (i - 1))).length = 0) := by rw [Hid, g3, hii, qw]; rfl
          clear g3
          go_wp2_with fail
          refine (tick_in HS.out g1).mono ?_; rintro e w4 ⟨A4, n4, c4, F4, R4, ps4, rfl, O4⟩
          have h4 := O4.len.symm
          rw [hcnt.out] at h4
          have O4 := Lib.hid O4
          subst h4
          go_wp2_with fail
          refine (send_in O4.out.sin g2).mono ?_; rintro e w5 ⟨A5, n5, c5, F5, R5, ps5, rfl, O5⟩
          have h5 := O5.len.symm
          rw [g4.out] at h5
          have O5 := Lib.hid O5
          subst h5
          go_wp2
          go_roundg (gk - 1)
          case measure => omega
          case rel => exact ⟨i + 1, by omega, by omega, by omega, by go_num, F5, by rw [Hid, show i + 1 - 1 = (i - 1) + 1 from by omega]; exact O5.out.sin⟩
      · obtain rfl : i = k + 1 := by omega
        have hE := Lib.hid (good_at (t := k) hn1' hn4' (by omega)).2.2.2.2
        go_wp2_with fail
        refine (calls_val (flying_in HS.out) (by rw [show k + 1 - 1 = k from by omega, hE.out])).mono ?_; rintro e w' ⟨rfl, rfl⟩
        have HB := Lib.hid HS.out.below
        go_wp2
        go_ret
        exact ⟨rfl, HB.out⟩
  · go_loopg [8] (k + 1) (fun gk v wr => ∃ i : Nat, k + 1 < i + gk + 1 ∧ 1 ≤ i ∧ i ≤ k + 1 ∧ v = .int .i64 i ∧ ∃ F, Hid (SIn w wr g F (sR n (i - 1))))
    case atStart => exact ⟨1, by omega, by omega, by omega, rfl, F3, HS0.out⟩
    case round =>
      obtain ⟨i, hg, hi1, hik, rfl, F, HS⟩ := hrel
      by_cases hlt : i ≤ k
      · obtain ⟨g1, g2, g3, g4, g5⟩ := good_at (t := i - 1) hn1' hn4' (by omega)
        have hii : i - 1 + 1 = i := by omega
        have g4 := Lib.hid g4
        have b1 : (i : Int) ≤ (k : Int) := by omega
        have b2 : (1 : Int) ≤ (i : Int) := by omega
        have b3 : (i : Int) ≤ 201 := by omega
        clear g5
        rcases tests i with ⟨q1, qw⟩ | ⟨q1, q2, qw⟩ | ⟨q1, q2, q3, qw⟩ | ⟨q1, q2, q3, q4, q5, qw⟩ | ⟨q1, q2, q3, q4, q5, qw⟩ | ⟨q1, q2, q3, q4, qw⟩
        · have hcnt : Hid ((tickO (sR n (i - 1))).length = n) := by rw [Hid, g3, hii, qw]; rfl
          clear g3
          go_wp2_with fail
          refine (calls_val (ack_in HS.out g1 0 (by omega) (by omega)) (by rw [(ack0 _).1])).mono ?_; rintro e w4' ⟨rfl, F4', S4'⟩
          rw [(ack0 _).2] at S4'
          have HS := Lib.hid S4'
          clear S4'
          go_wp2_with fail
          refine (tick_in HS.out g1).mono ?_; rintro e w4 ⟨A4, n4, c4, F4, R4, ps4, rfl, O4⟩
          have h4 := O4.len.symm
          rw [hcnt.out] at h4
          have O4 := Lib.hid O4
          subst h4
          go_wp2_with fail
          refine (send_in O4.out.sin g2).mono ?_; rintro e w5 ⟨A5, n5, c5, F5, R5, ps5, rfl, O5⟩
          have h5 := O5.len.symm
          rw [g4.out] at h5
          have O5 := Lib.hid O5
          subst h5
          go_wp2
          go_roundg (gk - 1)
          case measure => omega
          case rel => exact ⟨i + 1, by omega, by omega, by omega, by go_num, F5, by rw [Hid, show i + 1 - 1 = (i - 1) + 1 from by omega]; exact O5.out.sin⟩
        · have hcnt : Hid ((tickO (sR n (i - 1))).length = n) := by rw [Hid, g3, hii, qw]; rfl
          clear g3
          go_wp2_with fail
          refine (calls_val (ack_in HS.out g1 0 (by omega) (by omega)) (by rw [(ack0 _).1])).mono ?_; rintro e w4' ⟨rfl, F4', S4'⟩
          rw [(ack0 _).2] at S4'
          have HS := Lib.hid S4'
          clear S4'
          go_wp2_with fail
          refine (tick_in HS.out g1).mono ?_; rintro e w4 ⟨A4, n4, c4, F4, R4, ps4, rfl, O4⟩
          have h4 := O4.len.symm
          rw [hcnt.out] at h4
          have O4 := Lib.hid O4
          subst h4
          go_wp2_with fail
          refine (send_in O4.out.sin g2).mono ?_; rintro e w5 ⟨A5, n5, c5, F5, R5, ps5, rfl, O5⟩
          have h5 := O5.len.symm
          rw [g4.out] at h5
          have O5 := Lib.hid O5
          subst h5
          go_wp2
          go_roundg (gk - 1)
          case measure => omega
          case rel => exact ⟨i + 1, by omega, by omega, by omega, by go_num, F5, by rw [Hid, show i + 1 - 1 = (i - 1) + 1 from by omega]; exact O5.out.sin⟩
        · have hcnt : Hid ((tickO (sR n (i - 1))).length = n) := by rw [Hid, g3, hii, qw]; rfl
          clear g3
          go_wp2_with fail
          refine (calls_val (ack_in HS.out g1 0 (by omega) (by omega)) (by rw [(ack0 _).1])).mono ?_; rintro e w4' ⟨rfl, F4', S4'⟩
          rw [(ack0 _).2] at S4'
          have HS := Lib.hid S4'
          clear S4'
          go_wp2_with fail
          refine (tick_in HS.out g1).mono ?_; rintro e w4 ⟨A4, n4, c4, F4, R4, ps4, rfl, O4⟩
          have h4 := O4.len.symm
          rw [hcnt.out] at h4
          have O4 := Lib.hid O4
          subst h4
          go_wp2_with fail
          refine (send_in O4.out.sin g2).mono ?_; rintro e w5 ⟨A5, n5, c5, F5, R5, ps5, rfl, O5⟩
          have h5 := O5.len.symm
          rw [g4.out] at h5
          have O5 := Lib.hid O5
          subst h5
          go_wp2
          go_roundg (gk - 1)
          case measure => omega
          case rel => exact ⟨i + 1, by omega, by omega, by omega, by go_num, F5, by rw [Hid, show i + 1 - 1 = (i - 1) + 1 from by omega]; exact O5.out.sin⟩
        · have hcnt : Hid ((tickO (sR n (i - 1))).length = n) := by rw [Hid, g3, hii, qw]; rfl
          clear g3
          go_wp2_with fail
          refine (calls_val (ack_in HS.out g1 0 (by omega) (by omega)) (by rw [(ack0 _).1])).mono ?_; rintro e w4' ⟨rfl, F4', S4'⟩
          rw [(ack0 _).2] at S4'
          have HS := Lib.hid S4'
          clear S4'
          go_wp2_with fail
          refine (tick_in HS.out g1).mono ?_; rintro e w4 ⟨A4, n4, c4, F4, R4, ps4, rfl, O4⟩
          have h4 := O4.len.symm
          rw [hcnt.out] at h4
          have O4 := Lib.hid O4
          subst h4
          go_wp2_with fail
          refine (send_in O4.out.sin g2).mono ?_; rintro e w5 ⟨A5, n5, c5, F5, R5, ps5, rfl, O5⟩
          have h5 := O5.len.symm
          rw [g4.out] at h5
          have O5 := Lib.hid O5
          subst h5
          go_wp2
          go_roundg (gk - 1)
          case measure => omega
          case rel => exact ⟨i + 1, by omega, by omega, by omega, by go_num, F5, by rw [Hid, show i + 1 - 1 = (i - 1) + 1 from by omega]; exact O5.out.sin⟩
        · have hcnt : Hid ((tickO (sR n (i - 1))).length = 0) := by rw [Hid, g3, hii, qw]; rfl
          clear g3
          go_wp2_with fail
          refine (calls_val (ack_in HS.out g1 0 (by omega) (by omega)) (by rw [(ack0 _).1])).mono ?_; rintro e w4' ⟨rfl, F4', S4'⟩
          rw [(ack0 _).2] at S4'
          have HS := Lib.hid S4'
          clear S4'
          go_wp2_with fail
          refine (tick_in HS.out g1).mono ?_; rintro e w4 ⟨A4, n4, c4, F4, R4, ps4, rfl, O4⟩
          have h4 := O4.len.symm
          rw [hcnt.out] at h4
          have O4 := Lib.hid O4
          subst h4
          go_wp2_with fail
          refine (send_in O4.out.sin g2).mono ?_; rintro e w5 ⟨A5, n5, c5, F5, R5, ps5, rfl, O5⟩
          have h5 := O5.len.symm
          rw [g4.out] at h5
          have O5 := Lib.hid O5
          subst h5
          go_wp2
          go_roundg (gk - 1)
          case measure => omega
          case rel => exact ⟨i + 1, by omega, by omega, by omega, by go_num, F5, by rw [Hid, show i + 1 - 1 = (i - 1) + 1 from by omega]; exact O5.out.sin⟩
        · have hcnt : Hid ((tickO (sR n (i - 1))).length = 0) := by rw [Hid, g3, hii, qw]; rfl
          clear g3
          go_wp2_with fail
          refine (calls_val (ack_in HS.out g1 0 (by omega) (by omega)) (by rw [(ack0 _).1])).mono ?_; rintro e w4' ⟨rfl, F4', S4'⟩
          rw [(ack0 _).2] at S4'
          have HS := Lib.hid S4'
          clear S4'
          go_wp2_with fail
          refine (tick_in HS.out g1).mono ?_; rintro e w4 ⟨A4, n4, c4, F4, R4, ps4, rfl, O4⟩
          have h4 := O4.len.symm
          rw [hcnt.out] at h4
          have O4 := Lib.hid O4
          subst h4
          go_wp2_with fail
          refine (send_in O4.out.sin g2).mono ?_; rintro e w5 ⟨A5, n5, c5, F5, R5, ps5, rfl, O5⟩
          have h5 := O5.len.symm
          rw [g4.out] at h5
          have O5 := Lib.hid O5
          subst h5
          go_wp2
          go_roundg (gk - 1)
          case measure => omega
          case rel => exact ⟨i + 1, by omega, by omega, by omega, by go_num, F5, by rw [Hid, show i + 1 - 1 = (i - 1) + 1 from by omega]; exact O5.out.sin⟩
      · obtain rfl : i = k + 1 := by omega
        have hE := Lib.hid (good_at (t := k) hn1' hn4' (by omega)).2.2.2.2
        go_wp2_with fail
        refine (calls_val (flying_in HS.out) (by rw [show k + 1 - 1 = k from by omega, hE.out])).mono ?_; rintro e w' ⟨rfl, rfl⟩
        have HB := Lib.hid HS.out.below
        go_wp2
        go_ret
        exact ⟨rfl, HB.out⟩

set_option maxRecDepth 100000 in
theorem lifted (os : Os) (started : os.Started) (H : Type) (enc : TypeId × Value → H) :
    ReturnsInHanded {} Try.checked os 3 .any (Rows.senderRarelySpec.pre6 enc Try.prog Try.f3 Rows.senderRarelyRow.domain false) (Rows.senderRarelySpec.post enc Try.prog Try.f3 false true false false) := by
  refine returnsInHanded_of_change_sized (C := Try.checked) own started (by kernel_rfl) Try.func3
    (ChangeSpec.witness6 (enc := enc) (C := Try.checked) false ⟨#[], #[.int .i64 0, .int .i64 0, .bool false], []⟩ 8 (by kernel_rfl) (by kernel_rfl) (by kernel_rfl) (by kernel_rfl)) ?_
  intro W base args ds gs before hval0 hW hcnd hsz0 _
  have hval : ∀ (j : Nat) t v, Try.f3.params[j]? = some t → args[j]? = some v → Value.okWide Try.prog W .any base t v := hval0
  have hW' := hW
  obtain ⟨p, q, hA0, hV, rfl, hfz, hnd⟩ := hW
  have hA : DataW.TrodAll enc Try.prog W 0 (fun _ => true) true Try.f3.params.toList args.toList ds p := hA0
  have hsz : (DataW.weightsEach Try.prog (Try.f3.params.toList ++ []) (ds ++ gs)).all (· ≤ reachBytes) = true := hsz0
  rw [Try.params3] at hA hval hsz
  have hAll := hA
  obtain ⟨v0, vs0, d0, ds0, p0, q0, hargs, rfl, rfl, h0, r0⟩ := trodAll_cons hA
  obtain ⟨v1, vs1, d1, ds1, p1, q1, rfl, rfl, rfl, h1, r1⟩ := trodAll_cons r0
  obtain ⟨v2, vs2, d2, ds2, p2, q2, rfl, rfl, rfl, h2, r2⟩ := trodAll_cons r1
  obtain ⟨rfl, rfl, rfl⟩ := trodAll_nil r2
  obtain rfl : args = #[v0, v1, v2] := by cases args; simp_all
  obtain ⟨rfl, rfl⟩ := trodVars_none hV
  obtain ⟨n, rfl, _, _, n_wf⟩ := open_int Try.underlying3 (hval 0 3 v0 rfl rfl) h0
  obtain ⟨k, rfl, _, _, k_wf⟩ := open_int Try.underlying3 (hval 1 3 v1 rfl rfl) h1
  obtain ⟨b, rfl, _, _⟩ := open_bool Try.underlying4 (hval 2 4 v2 rfl rfl) h2
  refine (walk n k b W (i64_bounds n_wf).1 (i64_bounds n_wf).2 (i64_bounds k_wf).1 (i64_bounds k_wf).2).mono fun e W' ⟨he, bel⟩ => ?_
  subst he
  exact ⟨_, rfl, _, _, _, [], _, [], hW', trodAll_mk1 (shut_bool Try.underlying4 _), keep_args laidOut bel (by kernel_rfl) hAll, rfl, bel.frame _, fun h => by cases h⟩

theorem over : Rows.senderRarelyRow.holds Try.pinned (OpenSpec.ofChange Rows.senderRarelySpec) :=
  OpenClaim.holds_of_wide 3 Try.f3 rfl rfl rfl rfl rfl rfl rfl ⟨rfl, rfl, rfl, rfl, rfl⟩ rfl rfl rfl rfl rfl (by kernel_rfl) Try.func3 (by kernel_rfl)
    (of_decide_eq_true (by kernel_rfl)) (by unfold Func.isWrapper; first | (rw [if_pos (by decide +kernel)]; kernel_rfl) | (rw [if_neg (by decide +kernel)]; exact ⟨rfl, rfl⟩))
    (fun os started H enc _ => lifted os started H enc)

theorem proved : Rows.SenderRarelySaid := over
#print axioms proved
end Go.Proofs.Ytelkgjmbibljmaa.sendRar
