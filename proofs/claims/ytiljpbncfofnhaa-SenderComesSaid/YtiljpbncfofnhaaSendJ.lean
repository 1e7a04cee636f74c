/- sender: the law's own acts on a sender of its own; the chapter's examples. -/
import Derived.Test.YtiljpbncfofnhaaSendI
import Derived.Outline
import Derived.BigQuiet
import Derived.Deep.QuietTactic
import Derived.Deep.RegionWith
import Derived.Deep.RegionHeld3
import Derived.Deep.DrawnRows
import Derived.Deep.LoopGhost
import Derived.Deep.DeepCutAuto
import Derived.Laws.EntriesVeiled
namespace Go.Proofs.Ytiljpbncfofnhaa.Send
open Go.RowKit Go.ChangeShapes Go.WideShapes Go.ChangeAt
set_option linter.unusedVariables false
set_option linter.unusedSimpArgs false
attribute [local go_sem ↓] Go.wp_at_zero Go.wp_at_succ

def lWrong (bl : List (List UInt8)) : Bool := bl.isEmpty || bl.any fun b => wrongB b.length
def lE (s : St) (bl : List (List UInt8)) : Int := if lWrong bl then 2 else if s.fl.isEmpty && s.wt.isEmpty then 0 else 4
def lS (s : St) (bl : List (List UInt8)) : St := if lE s bl = 0 then { s with wt := flg bl.length 0 bl } else s
theorem any_bs : ∀ (l : List Ch), (∀ c ∈ l, c.n = c.bs.length) → l.any (fun c => wrongB c.n) = (l.map Ch.bs).any fun b => wrongB b.length
  | [], _ => rfl
  | c :: l, h => by
    simp only [List.any_cons, List.map_cons]
    rw [h c (by simp), any_bs l (fun d hd => h d (by simp [hd]))]
theorem loadE_eq {w : World} (s : St) (cs : List Ch) (h : ∀ c ∈ cs, Ch.Ok w c) : loadE s cs = lE s (cs.map Ch.bs) ∧ loadS s cs = lS s (cs.map Ch.bs) := by
  have hany : cs.any (fun c => wrongB c.n) = (cs.map Ch.bs).any fun b => wrongB b.length := any_bs cs (fun c hc => (h c hc).n.out)
  have hw : wrongC cs = lWrong (cs.map Ch.bs) := by
    unfold wrongC lWrong
    rw [hany]
    cases cs <;> rfl
  have hE : loadE s cs = lE s (cs.map Ch.bs) := by
    unfold loadE lE
    rw [hw]
    congr 1
    simp only [Bool.and_eq_true, List.isEmpty_iff]
  refine ⟨hE, ?_⟩
  unfold loadS lS
  rw [hE]
  congr 1
  simp only [loadW, List.length_map]
  rw [List.take_of_length_le (by simp)]

section
variable {w0 w : World} {g : Nat} {F : Nat → Prop} {s : St}
theorem load_in (h : SIn w0 w g F s) (hs : s.Ok) (cs : List Ch) (A : Option Addr) (n cap : Nat) (hl : ChSl w w.heap.size A cs) (hok : ∀ c ∈ cs, Ch.Ok w c) (hn : Hid (n = cs.length)) (hm : n ≤ 1000)
    (hA : cs ≠ [] → ∀ k, blockOf A = some k → ¬ F k) (hE : ∀ c ∈ cs, c.bs ≠ [] → ∀ k, blockOf c.A = some k → ¬ F k) (htot : s.acked + n ≤ 900000) :
    Calls Try.prog 17 #[.pointer (some ⟨g, 0, none⟩), .slice A n cap] w fun e w' => e = .returned (.int .i64 (lE s (cs.map Ch.bs))) ∧ ∃ F', SIn w0 w' g F' (lS s (cs.map Ch.bs)) ∧ (∀ k, F' k → F k ∨ w.heap.size ≤ k) ∧ Chg F w w' := by
  obtain ⟨e1, e2⟩ := loadE_eq s cs hok
  refine (load_any w g F s h.snd hs cs A n cap hl hok hn hm hA hE htot).mono ?_
  rintro e w' ⟨rfl, ho⟩
  rw [e2] at ho
  rw [e1]
  exact ⟨rfl, h.op ho⟩
theorem load_row {w1 : World} (h : SIn w0 w1 g F s) (hs : s.Ok) (cs : List Ch) (A : Option Addr) (n cap : Nat) (hf : ChFresh w1 w A n cap cs) (bl : List (List UInt8)) (hbl : cs.map Ch.bs = bl) (hm : bl.length ≤ 1000) (htot : s.acked + bl.length ≤ 900000) :
    Calls Try.prog 17 #[.pointer (some ⟨g, 0, none⟩), .slice A n cap] w fun e w' => e = .returned (.int .i64 (lE s bl)) ∧ ∃ F', SIn w0 w' g F' (lS s bl) ∧ (∀ k, F' k → F k ∨ w.heap.size ≤ k) ∧ Chg F w w' := by
  subst hbl
  rw [List.length_map] at hm htot
  have hn := hf.n.out
  exact load_in (h.ext hf.below) hs cs A n cap hf.sl hf.ok hf.n (by omega) (fun _ k hk hF => by have := h.lt k hF; have := hf.a k hk; omega) (fun c hc _ k hk hF => by have := h.lt k hF; have := hf.each c hc k hk; omega) (by omega)
theorem send_in (h : SIn w0 w g F s) (hs : s.Ok) : Calls Try.prog 22 #[.pointer (some ⟨g, 0, none⟩)] w fun e w' => ∃ A n cap F' R ps, e = .returned (.slice A n cap) ∧ OutIn w0 w g (sendS s) (sendO s) A n cap F' R ps w' :=
  (send_any w g F s h.snd hs).mono fun _ _ ho => h.out ho
theorem tick_in (h : SIn w0 w g F s) (hs : s.Ok) : Calls Try.prog 26 #[.pointer (some ⟨g, 0, none⟩)] w fun e w' => ∃ A n cap F' R ps, e = .returned (.slice A n cap) ∧ OutIn w0 w g (tickS s) (tickO s) A n cap F' R ps w' :=
  (tick_any w g F s h.snd hs).mono fun _ _ ho => h.out ho
theorem ack_in (h : SIn w0 w g F s) (hs : s.Ok) (seq : Int) (h1 : -9223372036854775808 ≤ seq) (h2 : seq ≤ 9223372036854775807) :
    Calls Try.prog 24 #[.pointer (some ⟨g, 0, none⟩), .int .i64 seq] w fun e w' => e = .returned (.int .i64 (ackE s seq)) ∧ ∃ F', SIn w0 w' g F' (ackS s seq) := by
  refine (ack_any w g F s seq h.snd hs h1 h2).mono ?_
  rintro e w' ⟨rfl, ho⟩
  obtain ⟨F', h1, _⟩ := h.op ho
  exact ⟨rfl, F', h1⟩
theorem idle_in (h : SIn w0 w g F s) (hs : s.Ok) : Calls Try.prog 28 #[.pointer (some ⟨g, 0, none⟩)] w fun e w' => e = .returned (.bool (s.fl.isEmpty && s.wt.isEmpty)) ∧ SIn w0 w' g F s := by
  obtain ⟨wv, fv, wp, fp, h1⟩ := h.snd
  obtain ⟨B, nf, cf, rfl, hnf, _⟩ := h1.fo.own.form
  obtain ⟨A, nw, cw, rfl, hnw, _⟩ := h1.wo.own.form
  have e1 := hnf.out.trans h1.flen
  have e2 := hnw.out.trans h1.wlen
  have := hs.all
  refine (idle_made w g A B nw cw nf cf _ _ _ _ h1.blk (by omega) (by omega)).mono ?_
  rintro e w' ⟨rfl, m, rfl⟩
  refine ⟨ret_bool ?_, h.ext (bdrewN (Below.refl _ _) m)⟩
  rw [e1, e2]
  cases s.fl <;> cases s.wt <;> simp <;> omega
theorem flying_in (h : SIn w0 w g F s) : Calls Try.prog 30 #[.pointer (some ⟨g, 0, none⟩)] w fun e w' => e = .returned (.int .i64 (s.fl.length : Int)) ∧ w = w' := by
  obtain ⟨wv, fv, wp, fp, h1⟩ := h.snd
  obtain ⟨B, nf, cf, rfl, hnf, _⟩ := h1.fo.own.form
  have e1 := hnf.out.trans h1.flen
  rw [← e1]
  exact flying_made w g wv B nf cf _ _ _ _ h1.blk
theorem acked_in (h : SIn w0 w g F s) : Calls Try.prog 31 #[.pointer (some ⟨g, 0, none⟩)] w fun e w' => e = .returned (.int .i64 (s.acked : Int)) ∧ w = w' := by
  obtain ⟨wv, fv, wp, fp, h1⟩ := h.snd
  exact acked_made w g wv fv _ _ _ _ h1.blk
end

theorem map_seq {ps : List Pc} {out : List (Int × Bool × List UInt8)} (h : ps.map Pc.core = out) : ps.map Pc.seq = out.map (·.1) := by
  rw [← h, List.map_map]; rfl
/-- the numbers of pieces that were told -/
theorem numbers_in {w0 w w1 : World} {g : Nat} {s' : St} {out : List (Int × Bool × List UInt8)} {A : Option Addr} {n cap : Nat} {F' R : Nat → Prop} {ps : List Pc} (h : OutIn w0 w1 g s' out A n cap F' R ps w) (hm : out.length ≤ 1000000) (a b : Int) (ha : 0 ≤ a) (ha' : a ≤ 1000000000) (hb : -1 ≤ b) (hb' : b ≤ 1000000000) :
    Calls Try.prog 69 #[.slice A n cap, .int .i64 a, .int .i64 b] w fun e w' => e = .returned (.bool (numB (out.map (·.1)) a b)) ∧ w = w' := by
  rw [← map_seq h.core]
  refine numbers_any ps A n cap a b w (h.own.own.sl Pc.cells_len) h.n ?_ ha ha' hb hb'
  have := congrArg List.length h.core
  rw [List.length_map] at this
  rw [h.n.out]; omega
theorem OutIn.len {w0 w w1 : World} {g : Nat} {s' : St} {out : List (Int × Bool × List UInt8)} {A : Option Addr} {n cap : Nat} {F' R : Nat → Prop} {ps : List Pc} (h : OutIn w0 w1 g s' out A n cap F' R ps w) : n = out.length := by
  rw [h.n.out, ← h.core, List.length_map]

instance (s : St) : Decidable s.Ok :=
  decidable_of_iff (s.fl.length ≤ 4 ∧ s.acked + s.fl.length + s.wt.length ≤ 1000000 ∧ 0 ≤ s.waited ∧ s.waited < s.patience ∧ 2 ≤ s.patience ∧ s.patience ≤ 16)
    ⟨fun ⟨a, b, c, d, e, f⟩ => ⟨a, b, c, d, e, f⟩, fun ⟨a, b, c, d, e, f⟩ => ⟨a, b, c, d, e, f⟩⟩

def z0 : St := ⟨[], [], 0, 0, 2⟩
def z1 : St := lS z0 (rowL 6)
def z2 : St := sendS z1
def z3 : St := tickS z2
def z4 : St := tickS z3
def z5 : St := ackS z4 2
def z6 : St := sendS z5
def z7 : St := ackS z6 7
def z8 : St := lS z7 (rowL 1)
def z9 : St := ackS z8 6
theorem zok : z0.Ok ∧ z1.Ok ∧ z2.Ok ∧ z3.Ok ∧ z4.Ok ∧ z5.Ok ∧ z6.Ok ∧ z7.Ok ∧ z8.Ok ∧ z9.Ok := by decide +kernel
theorem zval : lE z0 (rowL 6) = 0 ∧ numB ((sendO z1).map (·.1)) 1 4 = true ∧ z2.fl.length = 4 ∧ tickO z2 = [] ∧ numB ((tickO z3).map (·.1)) 1 4 = true ∧ ackE z4 2 = 0 ∧ numB ((sendO z5).map (·.1)) 5 6 = true ∧ (sendO z5).map (fun x => x.2.1) = [false, true] ∧ ackE z6 7 = 2 ∧ lE z7 (rowL 1) = 4 ∧ ackE z8 6 = 0 ∧ (z9.fl.isEmpty && z9.wt.isEmpty) = true := by decide +kernel

/-- a law's step: what a call tells, with its value -/
theorem calls_val {P : Program} {f : FuncId} {args : Array Value} {w : World} {v v' : Value} {Q : Ending → World → Prop} (h : Calls P f args w fun e w' => e = .returned v ∧ Q e w') (hv : v = v') : Calls P f args w fun e w' => e = .returned v' ∧ Q e w' := hv ▸ h

set_option maxRecDepth 100000 in
set_option maxHeartbeats 2000000 in
theorem awake_any (w : World) : Calls Try.prog 32 #[] w fun e w' => e = .returned (.bool true) ∧ Below w.heap.size w w' := by
  obtain ⟨o0, o1, o2, o3, o4, o5, o6, o7, o8, o9⟩ := zok
  obtain ⟨v1, v2, v3, v4, v5, v6, v7, v8, v9, v10, v11, v12⟩ := zval
  have V := Lib.hid (And.intro v1 (And.intro v2 (And.intro v3 (And.intro v4 (And.intro v5 (And.intro v6 (And.intro v7 (And.intro v8 (And.intro v9 (And.intro v10 (And.intro v11 v12)))))))))))
  clear v1 v2 v3 v4 v5 v6 v7 v8 v9 v10 v11 v12
  have r6 := fun w1 : World => Lib.hid (show Calls Try.prog 68 #[.int .i64 6] w1 fun e w' => ∃ A m cap cs, e = .returned (.slice A m cap) ∧ ChFresh w1 w' A m cap cs ∧ cs.map Ch.bs = rowL 6 from row_any 6 w1 (by omega))
  have r1 := fun w1 : World => Lib.hid (show Calls Try.prog 68 #[.int .i64 1] w1 fun e w' => ∃ A m cap cs, e = .returned (.slice A m cap) ∧ ChFresh w1 w' A m cap cs ∧ cs.map Ch.bs = rowL 1 from row_any 1 w1 (by omega))
  go_enter Try.func32, Try.ntmps32
  go_wp2_with fail
  refine (new_any w).mono ?_; rintro e w' ⟨rfl, rfl⟩
  obtain ⟨F0, S0⟩ : ∃ F, Hid (SIn w (w.alloc (.cells (mkS (.slice none 0 0) (.slice none 0 0) 0 0 0 2) 96)) w.heap.size F z0) := ⟨_, SIn.new (Below.refl _ _)⟩
  generalize w.alloc (.cells (mkS (.slice none 0 0) (.slice none 0 0) 0 0 0 2) 96) = w1 at *
  obtain ⟨g, hg⟩ : ∃ g, Hid (w.heap.size = g) := ⟨_, rfl⟩
  rw [hg.out] at S0 ⊢
  go_wp2_with fail
  refine ((r6 w1).out).mono ?_; rintro e w2 ⟨A, m, cap, cs, rfl, hf, hbl⟩
  have H2 := Lib.hid (And.intro hf hbl)
  clear hf hbl
  go_wp2_with fail
  refine (calls_val (load_row S0.out o0 cs A m cap H2.out.1 (rowL 6) H2.out.2 (by decide) (by decide)) (by rw [V.out.1])).mono ?_; rintro e w3 ⟨rfl, F1, S1, _, _⟩
  have S1 : Hid (SIn w w3 g F1 z1) := S1
  clear H2
  go_wp2_with fail
  refine (send_in S1.out o1).mono ?_; rintro e w4 ⟨A2, n2, c2, F2, R2, ps2, rfl, O2⟩
  have O2 : Hid (OutIn w w3 g z2 (sendO z1) A2 n2 c2 F2 R2 ps2 w4) := O2
  go_wp2_with fail
  refine (calls_val (numbers_in O2.out (by decide +kernel) 1 4 (by omega) (by omega) (by omega) (by omega)) (by rw [V.out.2.1])).mono ?_; rintro e w' ⟨rfl, rfl⟩
  go_wp2_with fail
  refine (calls_val (flying_in O2.out.sin) (by rw [V.out.2.2.1])).mono ?_; rintro e w' ⟨rfl, rfl⟩
  go_wp2_with fail
  refine (tick_in O2.out.sin o2).mono ?_; rintro e w5 ⟨A3, n3, c3, F3, R3, ps3, rfl, O3⟩
  have hn3 := O3.len
  rw [V.out.2.2.2.1] at hn3
  have O3 : Hid (OutIn w w4 g z3 (tickO z2) A3 n3 c3 F3 R3 ps3 w5) := O3
  obtain rfl : n3 = 0 := hn3
  go_wp2_with fail
  refine (tick_in O3.out.sin o3).mono ?_; rintro e w6 ⟨A4, n4, c4, F4, R4, ps4, rfl, O4⟩
  have O4 : Hid (OutIn w w5 g z4 (tickO z3) A4 n4 c4 F4 R4 ps4 w6) := O4
  go_wp2_with fail
  refine (calls_val (numbers_in O4.out (by decide +kernel) 1 4 (by omega) (by omega) (by omega) (by omega)) (by rw [V.out.2.2.2.2.1])).mono ?_; rintro e w' ⟨rfl, rfl⟩
  go_wp2_with fail
  refine (calls_val (ack_in O4.out.sin o4 2 (by omega) (by omega)) (by rw [V.out.2.2.2.2.2.1])).mono ?_; rintro e w7 ⟨rfl, F5, S5⟩
  have S5 : Hid (SIn w w7 g F5 z5) := S5
  go_wp2_with fail
  refine (send_in S5.out o5).mono ?_; rintro e w8 ⟨A6, n6, c6, F6, R6, ps6, rfl, O6⟩
  have hn6 := O6.len
  have hl6 : ps6.map Pc.last = [false, true] := by
    rw [← V.out.2.2.2.2.2.2.2.1, ← O6.core, List.map_map]; rfl
  have O6 : Hid (OutIn w w7 g z6 (sendO z5) A6 n6 c6 F6 R6 ps6 w8) := O6
  have hlen : (sendO z5).length = 2 := by decide +kernel
  rw [hlen] at hn6
  obtain rfl : n6 = 2 := hn6
  obtain ⟨p0, p1, rfl⟩ : ∃ p0 p1, ps6 = [p0, p1] := by
    rcases ps6 with _ | ⟨p0, _ | ⟨p1, _ | ⟨p2, r⟩⟩⟩
    · simp at hl6
    · simp at hl6
    · exact ⟨_, _, rfl⟩
    · simp at hl6
  simp only [List.map_cons, List.map_nil, List.cons.injEq, and_true] at hl6
  obtain ⟨l0, l1⟩ := hl6
  have hsl := O6.out.own.own.sl Pc.cells_len
  obtain ⟨b, off, rfl, hbb, hcell⟩ := hsl (by simp)
  have d0 := hcell 0 _ rfl 1 _ rfl
  have d1 := hcell 1 _ rfl 1 _ rfl
  rw [l0] at d0
  rw [l1] at d1
  simp only [Nat.zero_mul, Nat.one_mul, Nat.add_zero] at d0 d1
  clear hcell hsl l0 l1 hlen
  go_wp2_with fail
  refine (calls_val (numbers_in O6.out (by decide +kernel) 5 6 (by omega) (by omega) (by omega) (by omega)) (by rw [V.out.2.2.2.2.2.2.1])).mono ?_; rintro e w' ⟨rfl, rfl⟩
  go_wp2_with fail
  refine (calls_val (ack_in O6.out.sin o6 7 (by omega) (by omega)) (by rw [V.out.2.2.2.2.2.2.2.2.1])).mono ?_; rintro e w9 ⟨rfl, F7, S7⟩
  have S7 : Hid (SIn w w9 g F7 z7) := S7
  clear d0 d1
  go_wp2_with fail
  refine ((r1 w9).out).mono ?_; rintro e w10 ⟨A8, m8, cap8, cs8, rfl, hf8, hbl8⟩
  have H8 := Lib.hid (And.intro hf8 hbl8)
  clear hf8 hbl8
  go_wp2_with fail
  refine (calls_val (load_row S7.out o7 cs8 A8 m8 cap8 H8.out.1 (rowL 1) H8.out.2 (by decide) (by decide +kernel)) (by rw [V.out.2.2.2.2.2.2.2.2.2.1])).mono ?_; rintro e w11 ⟨rfl, F8, S8, _, _⟩
  have S8 : Hid (SIn w w11 g F8 z8) := S8
  clear H8
  go_wp2_with fail
  refine (calls_val (ack_in S8.out o8 6 (by omega) (by omega)) (by rw [V.out.2.2.2.2.2.2.2.2.2.2.1])).mono ?_; rintro e w12 ⟨rfl, F9, S9⟩
  have S9 : Hid (SIn w w12 g F9 z9) := S9
  go_wp2_with fail
  refine (calls_val (idle_in S9.out o9) (by rw [V.out.2.2.2.2.2.2.2.2.2.2.2])).mono ?_; rintro e w13 ⟨rfl, S10⟩
  have hB := Lib.hid S10.below
  clear S10
  go_wp2_with fail
  go_ret
  exact ⟨rfl, hB.out⟩
end Go.Proofs.Ytiljpbncfofnhaa.Send
