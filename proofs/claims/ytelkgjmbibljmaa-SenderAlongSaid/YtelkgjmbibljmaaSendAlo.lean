/- SenderAlong: acknowledged one by one, chunks go out one by one behind the first four, and none is sent twice: whatever the input, the law returns true and leaves memory as it was. -/
import Derived.Test.YtelkgjmbibljmaaSendJ
import Derived.Test.YtelkgjmbibljmaaLift
import Derived.Outline
import Derived.BigQuiet
import Derived.Deep.QuietTactic
import Derived.Deep.RegionWith
import Derived.Deep.RegionHeld3
import Derived.Deep.DrawnRows
import Derived.Deep.LoopGhost
import Derived.Deep.DeepCutAuto
import Derived.Laws.EntriesVeiled
namespace Go.Proofs.Ytelkgjmbibljmaa.sendAlo
open Go.RowKit Go.ChangeShapes Go.WideShapes Go.ChangeAt
set_option linter.unusedVariables false
set_option linter.unusedSimpArgs false
attribute [local go_sem ↓] Go.wp_at_zero Go.wp_at_succ
open Send

/-- the state when k of the chunks L are acknowledged -/
def aS (L : List (Bool × List UInt8)) (k : Nat) : St := ⟨(L.drop k).take 4, L.drop (k + 4), k, 0, 2⟩

theorem numB_numd (l : List (Bool × List UInt8)) (a : Nat) : numB ((numd a l).map (·.1)) ((a : Int) + 1) ((a : Int) + l.length) = true := by
  unfold numB
  rw [List.length_map, numd_len]
  have h1 : ((l.length : Int) == (a : Int) + l.length - ((a : Int) + 1) + 1) = true := by simp only [beq_iff_eq]; omega
  rw [h1, Bool.true_and]
  have : ∀ (l : List (Bool × List UInt8)) (a : Nat) (q : Int), q = (a : Int) + 1 → allFrom ((numd a l).map (·.1)) q = true := by
    intro l
    induction l with
    | nil => intro a q _; rfl
    | cons x l ih =>
      intro a q hq
      subst hq
      simp only [numd, List.map_cons, allFrom, Bool.and_eq_true, beq_iff_eq]
      exact ⟨by omega, ih (a + 1) _ (by omega)⟩
  exact this l a _ rfl

theorem aS_ok {L : List (Bool × List UInt8)} {k : Nat} (hL : L.length ≤ 1000) (hk : k ≤ 1000) : (aS L k).Ok :=
  ⟨by simp [aS]; omega, by simp [aS]; omega, by simp [aS], by simp [aS], by simp [aS], by simp [aS]⟩
theorem start_eq (L : List (Bool × List UInt8)) : sendS ⟨[], L, 0, 0, 2⟩ = aS L 0 ∧ sendO ⟨[], L, 0, 0, 2⟩ = numd 0 (L.take 4) := by
  have h : sendK ⟨[], L, 0, 0, 2⟩ = min 4 L.length := rfl
  constructor
  · unfold sendS calmS aS
    rw [h]
    simp only [if_true, List.nil_append, List.drop_zero, Nat.zero_add]
    congr 1
    · by_cases h4 : 4 ≤ L.length
      · rw [Nat.min_eq_left h4]
      · rw [Nat.min_eq_right (by omega), List.take_of_length_le (Nat.le_refl _), List.take_of_length_le (by omega)]
    · by_cases h4 : 4 ≤ L.length
      · rw [Nat.min_eq_left h4]
      · rw [Nat.min_eq_right (by omega), List.drop_of_length_le (Nat.le_refl _), List.drop_of_length_le (by omega)]
  · unfold sendO
    rw [h]
    by_cases h4 : 4 ≤ L.length
    · rw [Nat.min_eq_left h4]; rfl
    · rw [Nat.min_eq_right (by omega), List.take_of_length_le (Nat.le_refl _), List.take_of_length_le (by omega)]; rfl
theorem tick_eq {L : List (Bool × List UInt8)} {k : Nat} (hk : k < L.length) : tickS (aS L k) = { aS L k with waited := 1 } ∧ tickO (aS L k) = [] := by
  have hne : (aS L k).fl ≠ [] := by
    intro h
    have := congrArg List.length h
    simp [aS] at this
    omega
  unfold tickS tickO
  rw [if_neg hne, if_neg hne]
  exact ⟨rfl, rfl⟩
theorem ack_eq {L : List (Bool × List UInt8)} {k : Nat} (hk : k < L.length) : ackE { aS L k with waited := 1 } ((k : Int) + 1) = 0 ∧ ackS { aS L k with waited := 1 } ((k : Int) + 1) = ⟨(L.drop (k + 1)).take 3, L.drop (k + 4), k + 1, 0, 2⟩ := by
  have hb : ackB { aS L k with waited := 1 } ((k : Int) + 1) = false := by
    simp [ackB, aS]; omega
  unfold ackE ackS
  rw [hb]
  refine ⟨rfl, ?_⟩
  have hlt : ((aS L k).acked : Int) < ((k : Int) + 1) := by simp [aS]; omega
  simp only [Bool.false_eq_true, if_false]
  rw [if_pos hlt]
  have e1 : ((k : Int) + 1).toNat - (aS L k).acked = 1 := by simp [aS]
  rw [e1]
  simp only [St.after, aS]
  congr 1
  rw [List.drop_take, List.drop_drop]
theorem send_eq {L : List (Bool × List UInt8)} {k : Nat} (hk : k < L.length) : sendS ⟨(L.drop (k + 1)).take 3, L.drop (k + 4), k + 1, 0, 2⟩ = aS L (k + 1) ∧
    (∃ l : List (Bool × List UInt8), sendO ⟨(L.drop (k + 1)).take 3, L.drop (k + 4), k + 1, 0, 2⟩ = numd (min L.length (k + 4)) l ∧ l.length = if k + 4 < L.length then 1 else 0) := by
  have hK : sendK ⟨(L.drop (k + 1)).take 3, L.drop (k + 4), k + 1, 0, 2⟩ = if k + 4 < L.length then 1 else 0 := by
    unfold sendK
    simp only [List.length_take, List.length_drop]
    split <;> omega
  have hcalm : ∀ (a : List (Bool × List UInt8)), calmS ⟨a, L.drop (k + 4), k + 1, 0, 2⟩ = ⟨a, L.drop (k + 4), k + 1, 0, 2⟩ := by
    intro a; unfold calmS; split <;> rfl
  refine ⟨?_, (L.drop (k + 4)).take (if k + 4 < L.length then 1 else 0), ?_, ?_⟩
  · unfold sendS
    rw [hK, hcalm]
    unfold aS
    simp only
    congr 1
    · split
      · have h3 : (L.drop (k + 1)).take 4 = (L.drop (k + 1)).take 3 ++ ((L.drop (k + 1)).drop 3).take 1 := by
          rw [show (4 : Nat) = 3 + 1 from rfl, List.take_add]
        rw [h3, List.drop_drop]
      · rw [List.take_zero, List.append_nil, List.take_of_length_le (by simp; omega), List.take_of_length_le (by simp; omega)]
    · split
      · rw [List.drop_drop]
      · rw [List.drop_zero, List.drop_of_length_le (by omega), List.drop_of_length_le (by omega)]
  · unfold sendO
    rw [hK]
    simp only [List.length_take, List.length_drop]
    congr 1
    omega
  · rw [List.length_take, List.length_drop]
    split <;> omega
theorem flg_ne (n : Nat) : (flg n 0 (rowL n)).length = n := by rw [flg_len, rowL_len]
theorem lS_row {n : Nat} (h1 : 1 ≤ n) : lE z0 (rowL n) = 0 ∧ lS z0 (rowL n) = ⟨[], flg n 0 (rowL n), 0, 0, 2⟩ := by
  have hw : lWrong (rowL n) = false := by
    unfold lWrong
    rw [Bool.or_eq_false_iff]
    refine ⟨?_, ?_⟩
    · cases hn : rowL n with
      | nil => have := congrArg List.length hn; rw [rowL_len] at this; simp at this; omega
      | cons a b => rfl
    · rw [List.any_eq_false]
      intro b hb
      simp only [rowL, List.mem_map] at hb
      obtain ⟨i, _, rfl⟩ := hb
      simp [wrongB]
  have hE : lE z0 (rowL n) = 0 := by unfold lE; rw [hw]; rfl
  refine ⟨hE, ?_⟩
  unfold lS
  rw [if_pos hE, rowL_len]; rfl


theorem i64_bounds {n : Int} (h : (Lit.int .i64 n).wf = true) : -9223372036854775808 ≤ n ∧ n ≤ 9223372036854775807 := by simpa [Lit.wf, IntKind.min, IntKind.max, IntKind.signed, IntKind.bits] using h

set_option maxRecDepth 100000 in
set_option maxHeartbeats 4000000 in
theorem walk (n0 : Int) (w : World) (hn1 : -9223372036854775808 ≤ n0) (hn2 : n0 ≤ 9223372036854775807) :
    Calls Try.prog 7 #[.int .i64 n0] w fun e w' => e = .returned (.bool true) ∧ Below w.heap.size w w' := by
  obtain ⟨U, hU, hU0⟩ : ∃ U, IntKind.u64.wrap n0 = U ∧ 0 ≤ U := ⟨_, rfl, by simp only [IntKind.wrap, IntKind.signed, IntKind.bits]; simp; omega⟩
  go_enter Try.func7, Try.ntmps7
  go_wp2_with fail
  refine (awake_any w).mono ?_; rintro e w1 ⟨rfl, hb1⟩
  have HB1 := Lib.hid hb1
  clear hb1
  go_wp2_with fail
  have hq4 : 1 ≤ 1 + U % 100 ∧ 1 + U % 100 ≤ 100 := by omega
  generalize 1 + U % 100 = q at *
  obtain ⟨n, rfl⟩ : ∃ n : Nat, q = (n : Int) := ⟨q.toNat, by omega⟩
  have hn1' : 1 ≤ n := by omega
  have hn4' : n ≤ 100 := by omega
  clear hq4 hU
  obtain ⟨s1, s2⟩ := lS_row hn1'
  obtain ⟨s3, s4⟩ := start_eq (flg n 0 (rowL n))
  have hs := Lib.hid (And.intro s1 (And.intro s2 (And.intro s3 s4)))
  clear s1 s2 s3 s4
  refine (new_any w1).mono ?_; rintro e w' ⟨rfl, rfl⟩
  obtain ⟨F0, S0⟩ : ∃ F, Hid (SIn w (w1.alloc (.cells (mkS (.slice none 0 0) (.slice none 0 0) 0 0 0 2) 42)) w1.heap.size F z0) := ⟨_, SIn.new HB1.out⟩
  generalize w1.alloc (.cells (mkS (.slice none 0 0) (.slice none 0 0) 0 0 0 2) 42) = w2 at *
  obtain ⟨g, hg⟩ : ∃ g, Hid (w1.heap.size = g) := ⟨_, rfl⟩
  rw [hg.out] at S0 ⊢
  go_wp2_with fail
  refine (row_any n w2 (by omega)).mono ?_; rintro e w3 ⟨A, m, cap, cs, rfl, hf, hbl⟩
  have H2 := Lib.hid (And.intro hf hbl)
  clear hf hbl
  go_wp2_with fail
  refine (calls_val (load_row S0.out zok.1 cs A m cap H2.out.1 (rowL n) H2.out.2 (by rw [rowL_len]; omega) (by rw [rowL_len]; simp [z0]; omega)) (by rw [hs.out.1])).mono ?_; rintro e w4 ⟨rfl, F1, S1, _, _⟩
  rw [hs.out.2.1] at S1
  have S1 := Lib.hid S1
  clear H2
  go_wp2_with fail
  refine (send_in S1.out ⟨by simp, by simp [flg_ne]; omega, by simp, by simp, by simp, by simp⟩).mono ?_; rintro e w5 ⟨A2, n2, c2, F3, R2, ps2, rfl, O2⟩
  have h2 := O2.len.symm
  rw [hs.out.2.2.2, numd_len, List.length_take, flg_ne] at h2
  have HS0 : Hid (SIn w w5 g F3 (aS (flg n 0 (rowL n)) 0)) := by rw [Hid, ← hs.out.2.2.1]; exact O2.sin
  clear O2
  obtain ⟨m0, hm0⟩ : ∃ m0 : Nat, Hid (m0 = min n 4) := ⟨_, rfl⟩
  have h2' : m0 = n2 := by rw [hm0.out, ← h2, Nat.min_comm]
  clear h2
  subst h2'
  have hms : m0 ≤ n := by rw [hm0.out]; omega
  have hmd : (m0 = n) ∨ (m0 = 4 ∧ m0 < n) := by rw [hm0.out]; omega
  rcases hmd with hA | ⟨hB, hB2⟩
  · obtain rfl : n = m0 := hA.symm
    clear hA hms
    go_wp2_with fail
    go_loopg [4, 5] (n + 1) (fun gk sv v wr => ∃ k m : Nat, n < k + gk ∧ k ≤ n ∧ v = .int .i64 ((k : Int) + 1) ∧ sv = .int .i64 (m : Int) ∧ Hid (m = min n (k + 4)) ∧ ∃ F, Hid (SIn w wr g F (aS (flg n 0 (rowL n)) k)))
    case atStart => exact ⟨0, n, by omega, by omega, by go_num, rfl, hm0, F3, HS0⟩
    case round =>
      obtain ⟨k, m, hg, hkn, rfl, rfl, hm, F, HS⟩ := hrel
      by_cases hlt : k < n
      · by_cases h5 : k + 4 < n
        · obtain ⟨t1, t2⟩ := tick_eq (L := flg n 0 (rowL n)) (k := k) (by rw [flg_ne]; omega)
          obtain ⟨a1, a2⟩ := ack_eq (L := flg n 0 (rowL n)) (k := k) (by rw [flg_ne]; omega)
          obtain ⟨e1, l, e2, e3⟩ := send_eq (L := flg n 0 (rowL n)) (k := k) (by rw [flg_ne]; omega)
          rw [flg_ne] at e2 e3
          have E := Lib.hid (And.intro t1 (And.intro t2 (And.intro a1 (And.intro a2 (And.intro e1 e2)))))
          have hl : l.length = 1 := by rw [e3]; rw [if_pos h5]
          have HL := Lib.hid hl
          clear t1 t2 a1 a2 e1 e2 e3 hl
          have o1 := Lib.hid (aS_ok (L := flg n 0 (rowL n)) (k := k) (by rw [flg_ne]; omega) (by omega))
          have o2 : Hid (St.Ok { aS (flg n 0 (rowL n)) k with waited := 1 }) := ⟨o1.out.fl, o1.out.all, by simp, by simp [aS], by simp [aS], by simp [aS]⟩
          have o3 : Hid (St.Ok ⟨((flg n 0 (rowL n)).drop (k + 1)).take 3, (flg n 0 (rowL n)).drop (k + 4), k + 1, 0, 2⟩) := ⟨by simp; omega, by simp [flg_ne]; omega, by simp, by simp, by simp, by simp⟩
          have w1 : IntKind.i64.wrap ((k : Int) + 1 - 1) = (k : Int) := by rw [IntWalk.i64_in _ (by omega)]; omega
          have b1 : ((k : Int) + 1) ≤ (n : Int) := by omega
          have b2 : (n : Int) ≤ 100 := by omega
          have b3 : (m : Int) ≤ 1000 := by have := hm.out; omega
          have b4 : (m : Int) < (n : Int) := by have := hm.out; omega
          go_wp2_with fail
          refine (calls_val (v' := .int .i64 (k : Int)) (acked_in HS.out) rfl).mono ?_; rintro e w' ⟨rfl, rfl⟩
          go_wp2_with fail
          refine (tick_in HS.out o1.out).mono ?_; rintro e w5 ⟨A4, n4, c4, F4, R4, ps4, rfl, O4⟩
          have h4 := O4.len.symm
          rw [E.out.2.1] at h4
          have S4 : Hid (SIn w w5 g F4 { aS (flg n 0 (rowL n)) k with waited := 1 }) := by rw [Hid, ← E.out.1]; exact O4.sin
          clear O4
          simp only [List.length_nil] at h4
          subst h4
          go_wp2_with fail
          refine (calls_val (ack_in S4.out o2.out ((k : Int) + 1) (by omega) (by omega)) (by rw [E.out.2.2.1])).mono ?_; rintro e w6 ⟨rfl, F5, S5⟩
          rw [E.out.2.2.2.1] at S5
          have S5 := Lib.hid S5
          go_wp2_with fail
          refine (send_in S5.out o3.out).mono ?_; rintro e w7 ⟨A6, n6, c6, F6, R6, ps6, rfl, O6⟩
          have h6 := O6.len.symm
          rw [E.out.2.2.2.2.2, numd_len, HL.out] at h6
          have O6 := Lib.hid O6
          subst h6
          go_wp2_with fail
          refine (calls_val (v' := .bool true) (numbers_in O6.out (by rw [E.out.2.2.2.2.2, numd_len, HL.out]; omega) _ _ (by omega) (by omega) (by omega) (by omega)) (by rw [E.out.2.2.2.2.2, ← hm.out]; have hnn := numB_numd l m; rw [HL.out] at hnn; exact congrArg Value.bool hnn)).mono ?_; rintro e w' ⟨rfl, rfl⟩
          go_wp2
          go_roundg (gk - 1)
          case measure => omega
          case rel => exact ⟨k + 1, m + 1, by omega, by omega, by go_num, by go_num, by rw [Hid]; have := hm.out; omega, F6, by rw [Hid, ← E.out.2.2.2.2.1]; exact O6.out.sin⟩
        · obtain ⟨t1, t2⟩ := tick_eq (L := flg n 0 (rowL n)) (k := k) (by rw [flg_ne]; omega)
          obtain ⟨a1, a2⟩ := ack_eq (L := flg n 0 (rowL n)) (k := k) (by rw [flg_ne]; omega)
          obtain ⟨e1, l, e2, e3⟩ := send_eq (L := flg n 0 (rowL n)) (k := k) (by rw [flg_ne]; omega)
          rw [flg_ne] at e2 e3
          have E := Lib.hid (And.intro t1 (And.intro t2 (And.intro a1 (And.intro a2 (And.intro e1 e2)))))
          have hl : l.length = 0 := by rw [e3]; rw [if_neg h5]
          have HL := Lib.hid hl
          clear t1 t2 a1 a2 e1 e2 e3 hl
          have o1 := Lib.hid (aS_ok (L := flg n 0 (rowL n)) (k := k) (by rw [flg_ne]; omega) (by omega))
          have o2 : Hid (St.Ok { aS (flg n 0 (rowL n)) k with waited := 1 }) := ⟨o1.out.fl, o1.out.all, by simp, by simp [aS], by simp [aS], by simp [aS]⟩
          have o3 : Hid (St.Ok ⟨((flg n 0 (rowL n)).drop (k + 1)).take 3, (flg n 0 (rowL n)).drop (k + 4), k + 1, 0, 2⟩) := ⟨by simp; omega, by simp [flg_ne]; omega, by simp, by simp, by simp, by simp⟩
          have w1 : IntKind.i64.wrap ((k : Int) + 1 - 1) = (k : Int) := by rw [IntWalk.i64_in _ (by omega)]; omega
          have b1 : ((k : Int) + 1) ≤ (n : Int) := by omega
          have b2 : (n : Int) ≤ 100 := by omega
          have b3 : (m : Int) ≤ 1000 := by have := hm.out; omega
          have b4 : (n : Int) ≤ (m : Int) := by have := hm.out; omega
          go_wp2_with fail
          refine (calls_val (v' := .int .i64 (k : Int)) (acked_in HS.out) rfl).mono ?_; rintro e w' ⟨rfl, rfl⟩
          go_wp2_with fail
          refine (tick_in HS.out o1.out).mono ?_; rintro e w5 ⟨A4, n4, c4, F4, R4, ps4, rfl, O4⟩
          have h4 := O4.len.symm
          rw [E.out.2.1] at h4
          have S4 : Hid (SIn w w5 g F4 { aS (flg n 0 (rowL n)) k with waited := 1 }) := by rw [Hid, ← E.out.1]; exact O4.sin
          clear O4
          simp only [List.length_nil] at h4
          subst h4
          go_wp2_with fail
          refine (calls_val (ack_in S4.out o2.out ((k : Int) + 1) (by omega) (by omega)) (by rw [E.out.2.2.1])).mono ?_; rintro e w6 ⟨rfl, F5, S5⟩
          rw [E.out.2.2.2.1] at S5
          have S5 := Lib.hid S5
          go_wp2_with fail
          refine (send_in S5.out o3.out).mono ?_; rintro e w7 ⟨A6, n6, c6, F6, R6, ps6, rfl, O6⟩
          have h6 := O6.len.symm
          rw [E.out.2.2.2.2.2, numd_len, HL.out] at h6
          have O6 := Lib.hid O6
          subst h6
          go_wp2_with fail
          refine (calls_val (v' := .bool true) (numbers_in O6.out (by rw [E.out.2.2.2.2.2, numd_len, HL.out]; omega) _ _ (by omega) (by omega) (by omega) (by omega)) (by rw [E.out.2.2.2.2.2, ← hm.out]; have hnn := numB_numd l m; rw [HL.out] at hnn; exact congrArg Value.bool hnn)).mono ?_; rintro e w' ⟨rfl, rfl⟩
          go_wp2
          go_roundg (gk - 1)
          case measure => omega
          case rel => exact ⟨k + 1, m + 0, by omega, by omega, by go_num, by go_num, by rw [Hid]; have := hm.out; omega, F6, by rw [Hid, ← E.out.2.2.2.2.1]; exact O6.out.sin⟩
      · obtain rfl : k = n := by omega
        have hE : aS (flg k 0 (rowL k)) k = ⟨[], [], k, 0, 2⟩ := by
          unfold aS
          rw [List.drop_of_length_le (by rw [flg_ne]; omega), List.drop_of_length_le (by rw [flg_ne]; omega)]; rfl
        rw [hE] at HS
        have hmk : m = k := by have := hm.out; omega
        subst hmk
        clear hm hE
        go_wp2_with fail
        refine (calls_val (v' := .bool true) (idle_in HS.out ⟨by simp, by simp; omega, by simp, by simp, by simp, by simp⟩) rfl).mono ?_; rintro e w5 ⟨rfl, S5⟩
        have S5 := Lib.hid S5
        go_wp2_with fail
        refine (calls_val (v' := .int .i64 (m : Int)) (acked_in S5.out) rfl).mono ?_; rintro e w' ⟨rfl, rfl⟩
        have HB := Lib.hid S5.out.below
        go_wp2
        go_ret
        exact ⟨rfl, HB.out⟩
  · subst hB
    clear hms
    go_wp2_with fail
    go_loopg [4, 5] (n + 1) (fun gk sv v wr => ∃ k m : Nat, n < k + gk ∧ k ≤ n ∧ v = .int .i64 ((k : Int) + 1) ∧ sv = .int .i64 (m : Int) ∧ Hid (m = min n (k + 4)) ∧ ∃ F, Hid (SIn w wr g F (aS (flg n 0 (rowL n)) k)))
    case atStart => exact ⟨0, 4, by omega, by omega, by go_num, rfl, hm0, F3, HS0⟩
    case round =>
      obtain ⟨k, m, hg, hkn, rfl, rfl, hm, F, HS⟩ := hrel
      by_cases hlt : k < n
      · by_cases h5 : k + 4 < n
        · obtain ⟨t1, t2⟩ := tick_eq (L := flg n 0 (rowL n)) (k := k) (by rw [flg_ne]; omega)
          obtain ⟨a1, a2⟩ := ack_eq (L := flg n 0 (rowL n)) (k := k) (by rw [flg_ne]; omega)
          obtain ⟨e1, l, e2, e3⟩ := send_eq (L := flg n 0 (rowL n)) (k := k) (by rw [flg_ne]; omega)
          rw [flg_ne] at e2 e3
          have E := Lib.hid (And.intro t1 (And.intro t2 (And.intro a1 (And.intro a2 (And.intro e1 e2)))))
          have hl : l.length = 1 := by rw [e3]; rw [if_pos h5]
          have HL := Lib.hid hl
          clear t1 t2 a1 a2 e1 e2 e3 hl
          have o1 := Lib.hid (aS_ok (L := flg n 0 (rowL n)) (k := k) (by rw [flg_ne]; omega) (by omega))
          have o2 : Hid (St.Ok { aS (flg n 0 (rowL n)) k with waited := 1 }) := ⟨o1.out.fl, o1.out.all, by simp, by simp [aS], by simp [aS], by simp [aS]⟩
          have o3 : Hid (St.Ok ⟨((flg n 0 (rowL n)).drop (k + 1)).take 3, (flg n 0 (rowL n)).drop (k + 4), k + 1, 0, 2⟩) := ⟨by simp; omega, by simp [flg_ne]; omega, by simp, by simp, by simp, by simp⟩
          have w1 : IntKind.i64.wrap ((k : Int) + 1 - 1) = (k : Int) := by rw [IntWalk.i64_in _ (by omega)]; omega
          have b1 : ((k : Int) + 1) ≤ (n : Int) := by omega
          have b2 : (n : Int) ≤ 100 := by omega
          have b3 : (m : Int) ≤ 1000 := by have := hm.out; omega
          have b4 : (m : Int) < (n : Int) := by have := hm.out; omega
          go_wp2_with fail
          refine (calls_val (v' := .int .i64 (k : Int)) (acked_in HS.out) rfl).mono ?_; rintro e w' ⟨rfl, rfl⟩
          go_wp2_with fail
          refine (tick_in HS.out o1.out).mono ?_; rintro e w5 ⟨A4, n4, c4, F4, R4, ps4, rfl, O4⟩
          have h4 := O4.len.symm
          rw [E.out.2.1] at h4
          have S4 : Hid (SIn w w5 g F4 { aS (flg n 0 (rowL n)) k with waited := 1 }) := by rw [Hid, ← E.out.1]; exact O4.sin
          clear O4
          simp only [List.length_nil] at h4
          subst h4
          go_wp2_with fail
          refine (calls_val (ack_in S4.out o2.out ((k : Int) + 1) (by omega) (by omega)) (by rw [E.out.2.2.1])).mono ?_; rintro e w6 ⟨rfl, F5, S5⟩
          rw [E.out.2.2.2.1] at S5
          have S5 := Lib.hid S5
          go_wp2_with fail
          refine (send_in S5.out o3.out).mono ?_; rintro e w7 ⟨A6, n6, c6, F6, R6, ps6, rfl, O6⟩
          have h6 := O6.len.symm
          rw [E.out.2.2.2.2.2, numd_len, HL.out] at h6
          have O6 := Lib.hid O6
          subst h6
          go_wp2_with fail
          refine (calls_val (v' := .bool true) (numbers_in O6.out (by rw [E.out.2.2.2.2.2, numd_len, HL.out]; omega) _ _ (by omega) (by omega) (by omega) (by omega)) (by rw [E.out.2.2.2.2.2, ← hm.out]; have hnn := numB_numd l m; rw [HL.out] at hnn; exact congrArg Value.bool hnn)).mono ?_; rintro e w' ⟨rfl, rfl⟩
          go_wp2
          go_roundg (gk - 1)
          case measure => omega
          case rel => exact ⟨k + 1, m + 1, by omega, by omega, by go_num, by go_num, by rw [Hid]; have := hm.out; omega, F6, by rw [Hid, ← E.out.2.2.2.2.1]; exact O6.out.sin⟩
        · obtain ⟨t1, t2⟩ := tick_eq (L := flg n 0 (rowL n)) (k := k) (by rw [flg_ne]; omega)
          obtain ⟨a1, a2⟩ := ack_eq (L := flg n 0 (rowL n)) (k := k) (by rw [flg_ne]; omega)
          obtain ⟨e1, l, e2, e3⟩ := send_eq (L := flg n 0 (rowL n)) (k := k) (by rw [flg_ne]; omega)
          rw [flg_ne] at e2 e3
          have E := Lib.hid (And.intro t1 (And.intro t2 (And.intro a1 (And.intro a2 (And.intro e1 e2)))))
          have hl : l.length = 0 := by rw [e3]; rw [if_neg h5]
          have HL := Lib.hid hl
          clear t1 t2 a1 a2 e1 e2 e3 hl
          have o1 := Lib.hid (aS_ok (L := flg n 0 (rowL n)) (k := k) (by rw [flg_ne]; omega) (by omega))
          have o2 : Hid (St.Ok { aS (flg n 0 (rowL n)) k with waited := 1 }) := ⟨o1.out.fl, o1.out.all, by simp, by simp [aS], by simp [aS], by simp [aS]⟩
          have o3 : Hid (St.Ok ⟨((flg n 0 (rowL n)).drop (k + 1)).take 3, (flg n 0 (rowL n)).drop (k + 4), k + 1, 0, 2⟩) := ⟨by simp; omega, by simp [flg_ne]; omega, by simp, by simp, by simp, by simp⟩
          have w1 : IntKind.i64.wrap ((k : Int) + 1 - 1) = (k : Int) := by rw [IntWalk.i64_in _ (by omega)]; omega
          have b1 : ((k : Int) + 1) ≤ (n : Int) := by omega
          have b2 : (n : Int) ≤ 100 := by omega
          have b3 : (m : Int) ≤ 1000 := by have := hm.out; omega
          have b4 : (n : Int) ≤ (m : Int) := by have := hm.out; omega
          go_wp2_with fail
          refine (calls_val (v' := .int .i64 (k : Int)) (acked_in HS.out) rfl).mono ?_; rintro e w' ⟨rfl, rfl⟩
          go_wp2_with fail
          refine (tick_in HS.out o1.out).mono ?_; rintro e w5 ⟨A4, n4, c4, F4, R4, ps4, rfl, O4⟩
          have h4 := O4.len.symm
          rw [E.out.2.1] at h4
          have S4 : Hid (SIn w w5 g F4 { aS (flg n 0 (rowL n)) k with waited := 1 }) := by rw [Hid, ← E.out.1]; exact O4.sin
          clear O4
          simp only [List.length_nil] at h4
          subst h4
          go_wp2_with fail
          refine (calls_val (ack_in S4.out o2.out ((k : Int) + 1) (by omega) (by omega)) (by rw [E.out.2.2.1])).mono ?_; rintro e w6 ⟨rfl, F5, S5⟩
          rw [E.out.2.2.2.1] at S5
          have S5 := Lib.hid S5
          go_wp2_with fail
          refine (send_in S5.out o3.out).mono ?_; rintro e w7 ⟨A6, n6, c6, F6, R6, ps6, rfl, O6⟩
          have h6 := O6.len.symm
          rw [E.out.2.2.2.2.2, numd_len, HL.out] at h6
          have O6 := Lib.hid O6
          subst h6
          go_wp2_with fail
          refine (calls_val (v' := .bool true) (numbers_in O6.out (by rw [E.out.2.2.2.2.2, numd_len, HL.out]; omega) _ _ (by omega) (by omega) (by omega) (by omega)) (by rw [E.out.2.2.2.2.2, ← hm.out]; have hnn := numB_numd l m; rw [HL.out] at hnn; exact congrArg Value.bool hnn)).mono ?_; rintro e w' ⟨rfl, rfl⟩
          go_wp2
          go_roundg (gk - 1)
          case measure => omega
          case rel => exact ⟨k + 1, m + 0, by omega, by omega, by go_num, by go_num, by rw [Hid]; have := hm.out; omega, F6, by rw [Hid, ← E.out.2.2.2.2.1]; exact O6.out.sin⟩
      · obtain rfl : k = n := by omega
        have hE : aS (flg k 0 (rowL k)) k = ⟨[], [], k, 0, 2⟩ := by
          unfold aS
          rw [List.drop_of_length_le (by rw [flg_ne]; omega), List.drop_of_length_le (by rw [flg_ne]; omega)]; rfl
        rw [hE] at HS
        have hmk : m = k := by have := hm.out; omega
        subst hmk
        clear hm hE
        go_wp2_with fail
        refine (calls_val (v' := .bool true) (idle_in HS.out ⟨by simp, by simp; omega, by simp, by simp, by simp, by simp⟩) rfl).mono ?_; rintro e w5 ⟨rfl, S5⟩
        have S5 := Lib.hid S5
        go_wp2_with fail
        refine (calls_val (v' := .int .i64 (m : Int)) (acked_in S5.out) rfl).mono ?_; rintro e w' ⟨rfl, rfl⟩
        have HB := Lib.hid S5.out.below
        go_wp2
        go_ret
        exact ⟨rfl, HB.out⟩
set_option maxRecDepth 100000 in
theorem lifted (os : Os) (started : os.Started) (H : Type) (enc : TypeId × Value → H) :
    ReturnsInHanded {} Try.checked os 7 .any (Rows.senderAlongSpec.pre6 enc Try.prog Try.f7 Rows.senderAlongRow.domain false) (Rows.senderAlongSpec.post enc Try.prog Try.f7 false true false false) := by
  refine returnsInHanded_of_change_sized (C := Try.checked) own started (by kernel_rfl) Try.func7
    (ChangeSpec.witness6 (enc := enc) (C := Try.checked) false ⟨#[], #[.int .i64 0], []⟩ 8 (by kernel_rfl) (by kernel_rfl) (by kernel_rfl) (by kernel_rfl)) ?_
  intro W base args ds gs before hval0 hW hcnd hsz0 _
  have hval : ∀ (j : Nat) t v, Try.f7.params[j]? = some t → args[j]? = some v → Value.okWide Try.prog W .any base t v := hval0
  have hW' := hW
  obtain ⟨p, q, hA0, hV, rfl, hfz, hnd⟩ := hW
  have hA : DataW.TrodAll enc Try.prog W 0 (fun _ => true) true Try.f7.params.toList args.toList ds p := hA0
  have hsz : (DataW.weightsEach Try.prog (Try.f7.params.toList ++ []) (ds ++ gs)).all (· ≤ reachBytes) = true := hsz0
  rw [Try.params7] at hA hval hsz
  have hAll := hA
  obtain ⟨v0, vs0, d0, ds0, p0, q0, hargs, rfl, rfl, h0, r0⟩ := trodAll_cons hA
  obtain ⟨rfl, rfl, rfl⟩ := trodAll_nil r0
  obtain rfl : args = #[v0] := by cases args; simp_all
  obtain ⟨rfl, rfl⟩ := trodVars_none hV
  obtain ⟨n, rfl, _, _, n_wf⟩ := open_int Try.underlying3 (hval 0 3 v0 rfl rfl) h0
  refine (walk n W (i64_bounds n_wf).1 (i64_bounds n_wf).2).mono fun e W' ⟨he, bel⟩ => ?_
  subst he
  exact ⟨_, rfl, _, _, _, [], _, [], hW', trodAll_mk1 (shut_bool Try.underlying4 _), keep_args laidOut bel (by kernel_rfl) hAll, rfl, bel.frame _, fun h => by cases h⟩

theorem over : Rows.senderAlongRow.holds Try.pinned (OpenSpec.ofChange Rows.senderAlongSpec) :=
  OpenClaim.holds_of_wide 7 Try.f7 rfl rfl rfl rfl rfl rfl rfl ⟨rfl, rfl, rfl, rfl, rfl⟩ rfl rfl rfl rfl rfl (by kernel_rfl) Try.func7 (by kernel_rfl)
    (of_decide_eq_true (by kernel_rfl)) (by unfold Func.isWrapper; first | (rw [if_pos (by decide +kernel)]; kernel_rfl) | (rw [if_neg (by decide +kernel)]; exact ⟨rfl, rfl⟩))
    (fun os started H enc _ => lifted os started H enc)

theorem proved : Rows.SenderAlongSaid := over
#print axioms proved
end Go.Proofs.Ytelkgjmbibljmaa.sendAlo
