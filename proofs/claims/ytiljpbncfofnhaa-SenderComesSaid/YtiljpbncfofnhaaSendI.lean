/- sender: what the laws use: rows of chunks, numbers of pieces; acts on a sender in memory of the law's own. -/
import Derived.Test.YtiljpbncfofnhaaSendH
import Derived.Outline
import Derived.BigQuiet
import Derived.Deep.QuietTactic
import Derived.Deep.RegionWith
import Derived.Deep.RegionHeld3
import Derived.Deep.DrawnRows
import Derived.Deep.LoopGhost
import Derived.Deep.DeepCutAuto
import Derived.Laws.EntriesVeiled
namespace Go.Proofs.Ytiljpbncfofnhaa.Send
open Go.RowKit Go.ChangeShapes Go.WideShapes Go.ChangeAt
set_option linter.unusedVariables false
set_option linter.unusedSimpArgs false
attribute [local go_sem ↓] Go.wp_at_zero Go.wp_at_succ

/-- a sender in memory that was made behind w0; what was there is as it was -/
structure SIn (w0 w : World) (g : Nat) (F : Nat → Prop) (s : St) : Prop where
  snd : Snd w g F s
  base : ∀ k, F k → w0.heap.size ≤ k
  below : Below w0.heap.size w0 w
theorem SIn.lt {w0 w : World} {g : Nat} {F : Nat → Prop} {s : St} (h : SIn w0 w g F s) : ∀ k, F k → k < w.heap.size := by
  obtain ⟨_, _, _, _, h1⟩ := h.snd
  exact h1.lt
theorem SIn.ext {w0 w w' : World} {g : Nat} {F : Nat → Prop} {s : St} (h : SIn w0 w g F s) (hb : Below w.heap.size w w') : SIn w0 w' g F s :=
  ⟨h.snd.chg (Chg.of_ext (S := fun _ => False) hb) (fun _ _ h => h), h.base, h.below.trans (hb.mono h.below.size)⟩
theorem SIn.chg {w0 w w' : World} {g : Nat} {F S : Nat → Prop} {s : St} (h : SIn w0 w g F s) (hc : Chg S w w') (hS : ∀ k, S k → w0.heap.size ≤ k) (hn : ∀ k, F k → ¬ S k) : SIn w0 w' g F s :=
  ⟨h.snd.chg hc hn, h.base, h.below.trans (hc.below h.below.size (fun i hi hs => by have := hS i hs; omega))⟩
theorem SIn.op {w0 w w' : World} {g : Nat} {F : Nat → Prop} {s s' : St} (h : SIn w0 w g F s) (ho : SndOp w g F s' w') : ∃ F', SIn w0 w' g F' s' ∧ (∀ k, F' k → F k ∨ w.heap.size ≤ k) ∧ Chg F w w' := by
  obtain ⟨F', h1, h2, h3⟩ := ho
  refine ⟨F', ⟨h1, fun k hk => ?_, h.below.trans (h2.below h.below.size (fun i hi hs => by have := h.base i hs; omega))⟩, h3, h2⟩
  have := h.below.size
  rcases h3 k hk with h | h'
  · rename_i hh; exact hh.base k h
  · omega
theorem SIn.new {w0 w : World} (hb : Below w0.heap.size w0 w) : SIn w0 (w.alloc (.cells (mkS (.slice none 0 0) (.slice none 0 0) 0 0 0 2) 96)) w.heap.size (fun k => k = w.heap.size) ⟨[], [], 0, 0, 2⟩ :=
  ⟨⟨_, _, [], [], ⟨Blk.new _ _ _, rfl, fun k hk => by subst hk; simp, ⟨OwnA.nil_ _ _ _ _, fun k hk => (by cases hk), fun p hp => (by cases hp), fun p hp => (by cases hp)⟩, ⟨OwnA.nil_ _ _ _ _, fun k hk => (by cases hk), fun p hp => (by cases hp), fun p hp => (by cases hp)⟩, fun k hk => (by cases hk), rfl, rfl⟩⟩,
    fun k hk => by subst hk; exact hb.size, hb.trans ((Below.refl _ _).alloc hb.size _)⟩

/-- what a call that tells pieces leaves: the pieces, as they can be read, in memory R that is not the sender's -/
structure OutIn (w0 w : World) (g : Nat) (s' : St) (out : List (Int × Bool × List UInt8)) (A : Option Addr) (n cap : Nat) (F' R : Nat → Prop) (ps : List Pc) (w' : World) : Prop where
  sin : SIn w0 w' g F' s'
  own : PcOwn R w' 57 (.slice A n cap) ps
  n : Hid (n = ps.length)
  core : ps.map Pc.core = out
  fresh : ∀ k, R k → w.heap.size ≤ k ∧ ¬ F' k
  apart : Apart ps
theorem SIn.out {w0 w w' : World} {g : Nat} {F : Nat → Prop} {s s' : St} {out : List (Int × Bool × List UInt8)} {r : Ending} (h : SIn w0 w g F s) (ho : SndOut w g F s' out r w') :
    ∃ A n cap F' R ps, r = .returned (.slice A n cap) ∧ OutIn w0 w g s' out A n cap F' R ps w' := by
  obtain ⟨F', R, v, ps, rfl, h1, h2, h3, h4, h5, h6, h7⟩ := ho
  obtain ⟨A, n, cap, rfl, hn, _⟩ := h2.own.form
  obtain ⟨F2, k1, k2, k3⟩ := h.op (s' := s') ⟨F', h1, h5, h6⟩
  refine ⟨A, n, cap, F', R, ps, rfl, ⟨⟨h1, fun k hk => ?_, k1.below⟩, h2, hn, h3, h4, h7⟩⟩
  have := h.below.size
  rcases h6 k hk with h' | h'
  · exact h.base k h'
  · omega

/-! ### numbers -/
def allFrom : List Int → Int → Bool
  | [], _ => true
  | q :: r, f => (q == f) && allFrom r (f + 1)
def numB (qs : List Int) (a b : Int) : Bool := ((qs.length : Int) == b - a + 1) && allFrom qs a

set_option maxHeartbeats 1000000 in
theorem numbers_any (ps : List Pc) (A : Option Addr) (n cap : Nat) (a b : Int) (w : World) (hl : Sl w w.heap.size 3 Pc.cells A ps) (hn : Hid (n = ps.length)) (hm : n ≤ 1000000) (ha : 0 ≤ a) (ha' : a ≤ 1000000000) (hb : -1 ≤ b) (hb' : b ≤ 1000000000) :
    Calls Try.prog 69 #[.slice A n cap, .int .i64 a, .int .i64 b] w fun e w' => e = .returned (.bool (numB (ps.map Pc.seq) a b)) ∧ w = w' := by
  have e1 : IntKind.i64.wrap (b - a) = b - a := IntWalk.i64_in _ (by omega)
  have e2 : IntKind.i64.wrap (b - a + 1) = b - a + 1 := IntWalk.i64_in _ (by omega)
  cases hc : ((n : Int) == b - a + 1) with
  | false =>
    have he := Lib.hid (show numB (ps.map Pc.seq) a b = false by rw [numB, List.length_map, ← hn.out, hc]; rfl)
    have hc' : ((n : Int) != b - a + 1) = true := by rw [bne, hc]; rfl
    go_enter Try.func69, Try.ntmps69
    go_wp2
    go_ret
    exact ⟨ret_bool he.out.symm, rfl⟩
  | true =>
    have he := Lib.hid (show numB (ps.map Pc.seq) a b = allFrom (ps.map Pc.seq) a by rw [numB, List.length_map, ← hn.out, hc]; rfl)
    have hc' : ((n : Int) != b - a + 1) = false := by rw [bne, hc]; rfl
    go_enter Try.func69, Try.ntmps69
    go_wp2
    go_loop [7] (fun v => ∃ j : Nat, j ≤ n ∧ v = .int .i64 j ∧ Hid (numB (ps.map Pc.seq) a b = allFrom ((ps.drop j).map Pc.seq) (a + j))) (fun v => n - (intOf v).toNat)
    case atStart => exact ⟨0, by omega, rfl, by rw [Hid, he.out]; simp⟩
    case round =>
      obtain ⟨j, hj, rfl, hf⟩ := hrel
      by_cases hlt : j < n
      · have hlt' : j < ps.length := by rw [← hn.out]; exact hlt
        have hd := Lib.hid (List.drop_eq_getElem_cons hlt')
        obtain ⟨bb, off, rfl, hbb, hcell⟩ := Sl.at_ hl (List.getElem?_eq_getElem hlt')
        have c0 := hcell 0 _ rfl
        simp only [Nat.add_zero] at c0
        generalize ps[j] = x at *
        have b1 : (0 : Int) ≤ (j : Int) := Int.natCast_nonneg _
        have b2 : (j : Int) < (n : Int) := by omega
        have e3 : IntKind.i64.wrap (a + (j : Int)) = a + (j : Int) := IntWalk.i64_in _ (by omega)
        clear hcell
        cases hq : (x.seq == a + (j : Int)) with
        | false =>
          have hq' : (x.seq != a + (j : Int)) = true := by rw [bne, hq]; rfl
          have hfin := Lib.hid (show numB (ps.map Pc.seq) a b = false by rw [hf.out, hd.out, List.map_cons, allFrom, hq]; rfl)
          go_wp2
          go_ret
          exact ⟨ret_bool hfin.out.symm, rfl⟩
        | true =>
          have hq' : (x.seq != a + (j : Int)) = false := by rw [bne, hq]; rfl
          have hstep := Lib.hid (show numB (ps.map Pc.seq) a b = allFrom ((ps.drop (j + 1)).map Pc.seq) (a + (j + 1 : Nat)) by
            rw [hf.out, hd.out, List.map_cons, allFrom, hq, Bool.true_and]; congr 1; omega)
          go_wp2
          go_round
          case rel => exact ⟨j + 1, by omega, by go_num, hstep⟩
          case measure => simp [intOf]; omega
      · have hfin := Lib.hid (show numB (ps.map Pc.seq) a b = true by rw [hf.out, List.drop_of_length_le (by rw [← hn.out]; omega)]; rfl)
        go_wp2
        go_ret
        exact ⟨ret_bool hfin.out.symm, rfl⟩

/-! ### row -/
def rowL (n : Nat) : List (List UInt8) := (List.range n).map fun i => [UInt8.ofNat i]
theorem Ch.cells_len (c : Ch) : c.cells.length = 1 := rfl
theorem Ch.cells_one (c : Ch) : ∀ u ∈ c.cells, u.oneCell' = true := by simp [Ch.cells, Value.oneCell']
theorem chInfo : (Try.prog.info? 36).map (fun i => (i.zero, i.size, i.bytes)) = some (some (.slice none 0 0), 1, 24) := by kernel_rfl

/-- chunks in memory that was made behind w -/
structure ChFresh (w w' : World) (A : Option Addr) (n cap : Nat) (cs : List Ch) : Prop where
  sl : ChSl w' w'.heap.size A cs
  ok : ∀ c ∈ cs, Ch.Ok w' c
  n : Hid (n = cs.length)
  a : ∀ k, blockOf A = some k → w.heap.size ≤ k
  each : ∀ c ∈ cs, ∀ k, blockOf c.A = some k → w.heap.size ≤ k
  below : Below w.heap.size w w'

structure RowInv (w wr : World) (v : Value) (j : Nat) (cs : List Ch) : Prop where
  own : OwnA wr 36 1 Ch.cells v cs
  fresh : ∀ k, v.ownBlock = some k → w.heap.size ≤ k
  ok : ∀ c ∈ cs, OwnA wr 5 1 encB (.slice c.A c.n c.cap) c.bs
  each : ∀ c ∈ cs, ∀ k, blockOf c.A = some k → w.heap.size ≤ k
  bs : cs.map Ch.bs = rowL j
  below : Below w.heap.size w wr

theorem rowL_succ (j : Nat) : rowL (j + 1) = rowL j ++ [[UInt8.ofNat j]] := by simp [rowL, List.range_succ]
theorem rowL_len (j : Nat) : (rowL j).length = j := by simp [rowL]

theorem RowInv.fin {w wr : World} {A : Option Addr} {n cap j : Nat} {cs : List Ch} (h : RowInv w wr (.slice A n cap) j cs) : ChFresh w wr A n cap cs := by
  refine ⟨h.own.sl Ch.cells_len, fun c hc => ?_, h.own.len, fun k hk => h.fresh k (h.own.blk hk), h.each, h.below⟩
  obtain ⟨A2, n2, c2, hv, hn, hle, hmx, hnil⟩ := (h.ok c hc).form
  injection hv with h1 h2 h3
  subst h1; subst h2; subst h3
  exact ⟨(h.ok c hc).sl encB_len, hn, Nat.le_trans hle hmx, hle, hnil⟩

theorem RowInv.step {w wr w1 w2 w3 : World} {v v' : Value} {j : Nat} {cs : List Ch} {A2 : Option Addr} {n2 c2 : Nat} (h : RowInv w wr v j cs) (h1 : Below wr.heap.size wr w1) (ho : OwnA w1 5 1 encB (.slice A2 n2 c2) [UInt8.ofNat j]) (hf : ∀ k, (Value.slice A2 n2 c2).ownBlock = some k → wr.heap.size ≤ k)
    (h2 : Below w1.heap.size w1 w2) (hown : OwnA w3 36 1 Ch.cells v' (cs ++ [⟨A2, n2, c2, [UInt8.ofNat j]⟩])) (hc : Chg (fun k => v.ownBlock = some k) w2 w3) (hat : v'.ownBlock = v.ownBlock ∨ v'.ownBlock = some w2.heap.size) :
    RowInv w w3 v' (j + 1) (cs ++ [⟨A2, n2, c2, [UInt8.ofNat j]⟩]) := by
  have e0 := h.below.size
  have e1 := h1.size
  have e2 := h2.size
  have hv2 : OwnA w2 36 1 Ch.cells v cs := (h.own.ext h1).ext h2
  refine ⟨hown, fun k hk => ?_, fun c hc' => ?_, fun c hc' k hk => ?_, ?_, ?_⟩
  · rcases hat with hat | hat
    · exact h.fresh k (hat ▸ hk)
    · rw [hat] at hk; injection hk with hk; omega
  · rcases List.mem_append.1 hc' with hm | hm
    · have o := ((h.ok c hm).ext h1).ext h2
      exact o.chg hc (fun k hk => o.apartA hv2 (by decide) hk)
    · simp only [List.mem_singleton] at hm
      subst hm
      exact (ho.ext h2).chg hc (fun k hk => (ho.ext h2).apartA hv2 (by decide) hk)
  · rcases List.mem_append.1 hc' with hm | hm
    · exact h.each c hm k hk
    · simp only [List.mem_singleton] at hm
      subst hm
      have := hf k (ho.blk hk)
      omega
  · rw [List.map_append, h.bs, rowL_succ]; rfl
  · exact ((h.below.trans (h1.mono e0)).trans (h2.mono (by omega))).trans (hc.below (by omega) (fun i hi hs => by have := h.fresh i hs; omega))

theorem byte_block {w : World} {j : Nat} (hj : j < 256) : OwnA (w.alloc (.cells #[.int .u8 (j : Int)] 5)) 5 1 encB (.slice (some ⟨w.heap.size, 0, none⟩) 1 1) [UInt8.ofNat j] :=
  .inr ⟨w.heap.size, 0, 1, _, rfl, Blk.new w _ _, by simp, by simp [maxLen], by simp, by
    simp [encB]; omega⟩
theorem ch_block {w2 : World} {c : Ch} : ChSl (w2.alloc (.cells #[.slice c.A c.n c.cap] 36)) (w2.alloc (.cells #[.slice c.A c.n c.cap] 36)).heap.size (some ⟨w2.heap.size, 0, none⟩) [c] :=
  fun _ => ⟨w2.heap.size, 0, rfl, by simp, fun k x hx j v hv => by
    rcases k with _ | k
    · simp at hx; subst hx
      rw [show (⟨w2.heap.size, 0 + 0 * 1 + j, none⟩ : Addr) = ⟨w2.heap.size, j, none⟩ from by simp, (Blk.new w2 _ _).cell j]
      simpa [Ch.cells] using hv
    · simp at hx⟩

set_option maxHeartbeats 1000000 in
set_option maxRecDepth 100000 in
theorem row_any (n : Nat) (w : World) (hn : n ≤ 200) : Calls Try.prog 68 #[.int .i64 n] w fun e w' => ∃ A m cap cs, e = .returned (.slice A m cap) ∧ ChFresh w w' A m cap cs ∧ cs.map Ch.bs = rowL n := by
  obtain ⟨i0, hi, hz, hz1, hz2⟩ := info_parts chInfo
  have h0 := Lib.hid (show RowInv w w (.slice none 0 0) 0 [] from ⟨OwnA.nil_ _ _ _ _, fun k hk => (by cases hk), fun c hc => (by cases hc), fun c hc => (by cases hc), rfl, Below.refl _ _⟩)
  go_enter Try.func68, Try.ntmps68
  go_wp2
  go_loopw [3, 4] (fun v i wr => ∃ (j : Nat) (cs : List Ch), j ≤ n ∧ i = .int .i64 j ∧ RowInv w wr v j cs) (fun _ i _ => n - (intOf i).toNat)
  case atStart => exact ⟨0, [], by omega, rfl, h0.out⟩
  case round =>
    obtain ⟨j, cs, hj, rfl, hI⟩ := hrel
    obtain ⟨A, m, cap, rfl, hm, hle, hmx, hnil⟩ := hI.own.form
    have hml : Hid (cs.length ≤ 200) := by
      have h1 := congrArg List.length hI.bs
      rw [List.length_map, rowL_len] at h1
      rw [Hid, h1]; omega
    by_cases hlt : j < n
    · have HI := Lib.hid hI
      have e1 : IntKind.u8.wrap (j : Int) = (j : Int) := by
        simp only [IntKind.wrap, IntKind.signed, IntKind.bits]
        simp
        omega
      have hjI : (j : Int) < (n : Int) := by omega
      have a1 : Hid (cs.length + 1 ≤ maxLen) := by rw [Hid]; have := hml.out; unfold maxLen; omega
      have a2 : Hid ((cs.length + 1) * 24 ≤ 140737488355328) := by rw [Hid]; have := hml.out; omega
      have hcb : Hid (ChSl ((wr.alloc (.cells #[.int .u8 (j : Int)] 5)).alloc (.cells #[.slice (some ⟨wr.heap.size, 0, none⟩) 1 1] 36)) ((wr.alloc (.cells #[.int .u8 (j : Int)] 5)).alloc (.cells #[.slice (some ⟨wr.heap.size, 0, none⟩) 1 1] 36)).heap.size (some ⟨wr.heap.size + 1, 0, none⟩) [⟨some ⟨wr.heap.size, 0, none⟩, 1, 1, [UInt8.ofNat j]⟩]) := by
        have h := ch_block (w2 := wr.alloc (.cells #[.int .u8 (j : Int)] 5)) (c := ⟨some ⟨wr.heap.size, 0, none⟩, 1, 1, [UInt8.ofNat j]⟩)
        rw [show (wr.alloc (.cells #[.int .u8 (j : Int)] 5)).heap.size = wr.heap.size + 1 from by simp] at h
        exact h
      clear hI hle hmx hnil hm
      go_wp2_with (at_builtin; refine wpList_append_a _ rfl _ _ _ rfl 36 i0 _ 1 24 Try.underlying28 hi hz hz1 hz2 rfl (by decide) Ch.cells_len Ch.cells_one _ cs (by rfl) ((HI.out.own.alloc _).alloc _) _ _ [⟨some ⟨wr.heap.size, 0, none⟩, 1, 1, [UInt8.ofNat j]⟩] 1 1 (by rfl) rfl hcb.out a1.out a2.out ?_; intro v' w3 hown hchg hat; have HO := Lib.hid (And.intro hown (And.intro hchg hat)); clear hown hchg hat)
      go_roundw
      case rel => exact ⟨j + 1, _, by omega, by go_num, HI.out.step ((Below.refl _ _).alloc (Nat.le_refl _) _) (byte_block (by omega)) (fun k hk => by simp [Value.ownBlock] at hk; omega) ((Below.refl _ _).alloc (Nat.le_refl _) _) HO.out.1 HO.out.2.1 HO.out.2.2⟩
      case measure => simp [intOf]; omega
    · obtain rfl : j = n := by omega
      have HI := Lib.hid hI
      clear hI
      go_wp2
      go_ret
      exact ⟨A, m, cap, cs, rfl, HI.out.fin, HI.out.bs⟩
end Go.Proofs.Ytiljpbncfofnhaa.Send
