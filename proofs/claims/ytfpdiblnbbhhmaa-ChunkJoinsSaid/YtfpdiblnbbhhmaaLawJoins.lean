/- ChunkJoins: whatever chunks come, what is taken and told of them is what the chapter says: whatever the input, the law returns true and leaves its arguments as they were. -/
import Derived.Test.YtfpdiblnbbhhmaaJoinD
import Derived.Test.YtfpdiblnbbhhmaaLift
import Derived.Outline
import Derived.BigQuiet
import Derived.Deep.QuietTactic
import Derived.Deep.RegionWith
import Derived.Deep.RegionHeld3
import Derived.Deep.DrawnRows
import Derived.Deep.LoopGhost
import Derived.Deep.DeepCutAuto
import Derived.Laws.EntriesVeiled
namespace Go.Proofs.Ytfpdiblnbbhhmaa.lawJoins
open Go.RowKit Go.ChangeShapes Go.WideShapes Go.ChangeAt
set_option linter.unusedVariables false
set_option linter.unusedSimpArgs false
attribute [local go_sem ↓] Go.wp_at_zero Go.wp_at_succ
open JoinA JoinB JoinC JoinD Bytes

structure Act where
  seq : Int
  last : Bool
  A : Option Addr
  n : Nat
  cap : Nat
  bs : List UInt8
def Act.cells (a : Act) : List Value := [.int .i64 a.seq, .bool a.last, .slice a.A a.n a.cap]
structure Act.Ok (w : World) (a : Act) : Prop where
  seq : (Lit.int .i64 a.seq).wf = true
  sl : BySl w w.heap.size a.A a.bs
  n : Hid (a.n = a.bs.length)
  le : a.n ≤ maxLen

theorem opens_u8 {H : Type} {ench : TypeId × Value → H} {w : World} {base : Nat} {held : Bool} : OpensAs ench Try.prog w base held 5 encB (fun _ => True) := by
  intro fuel cs x h hw
  obtain ⟨n, rfl, k⟩ := opens_int Try.underlying5 _ _ _ h hw
  have hb : 0 ≤ n ∧ n ≤ 255 := by simpa [Lit.wf, IntKind.min, IntKind.max, IntKind.signed, IntKind.bits] using k
  refine ⟨UInt8.ofNat n.toNat, ?_, trivial⟩
  simp only [encB]
  congr 2
  rw [UInt8.toNat_ofNat']
  omega

theorem opens_act {H : Type} {ench : TypeId × Value → H} {w : World} {base : Nat} {held : Bool} : OpensAs ench Try.prog w base held 44 Act.cells (Act.Ok w) := by
  intro fuel cs x h hw
  obtain ⟨hl, n, hf⟩ := struct_cells Try.underlying44 (by kernel_rfl) (by kernel_rfl) h hw
  obtain ⟨v0, y0, e0, t0, w0⟩ := hf 0 _ rfl
  obtain ⟨v1, y1, e1, t1, w1⟩ := hf 1 _ rfl
  obtain ⟨v2, y2, e2, t2, w2⟩ := hf 2 _ rfl
  obtain ⟨n0, r0, k0⟩ := opens_int Try.underlying3 _ _ _ t0 w0
  obtain ⟨n1, r1, k1⟩ := opens_bool Try.underlying4 _ _ _ t1 w1
  obtain ⟨A, l, cap, r2, hsl, _, hle, hmx, _, _⟩ := open_sl_cells (c := 1) Try.underlying28 (by kernel_rfl) (by decide) opens_u8 t2 w2
  simp only [List.cons.injEq, and_true] at r0 r1 r2
  refine ⟨⟨n0, n1, A, l.length, cap, l⟩, ?_, ⟨k0, hsl, rfl, Nat.le_trans hle hmx⟩⟩
  have hl' : cs.length = 3 := hl
  match cs, hl' with
  | [c0, c1, c2], _ => simp_all [Act.cells]

theorem act_at {w : World} {B : Nat} {A : Option Addr} {l : List Act} (h : Sl w B 3 Act.cells A l) {k : Nat} {f : Act} (hx : l[k]? = some f) :
    ∃ b off, A = some ⟨b, off, none⟩ ∧ b < B ∧ w.cell? ⟨b, off + k * 3, none⟩ = some (.int .i64 f.seq) ∧ w.cell? ⟨b, off + k * 3 + 1, none⟩ = some (.bool f.last) ∧ w.cell? ⟨b, off + k * 3 + 2, none⟩ = some (.slice f.A f.n f.cap) := by
  obtain ⟨b, off, e, hb, hc⟩ := Sl.at_ h hx
  exact ⟨b, off, e, hb, hc 0 _ rfl, hc 1 _ rfl, hc 2 _ rfl⟩

/-- what stands at each round's head -/
def Inv (w : World) (gj gk : Nat) (j : Nat) (wr : World) : Prop :=
  ∃ (taken : Int) (jA kA : Option Addr) (n jc kc : Nat) (acc : List UInt8), 0 ≤ taken ∧ taken ≤ j ∧ n ≤ 262144 ∧ n = acc.length ∧
    Blk wr gj 31 (mkJ taken (.slice jA n jc)) ∧ Own wr w.heap.size 5 1 encB (.slice jA n jc) acc ∧
    Blk wr gk 42 (mkK taken (.slice kA n kc)) ∧ Own wr w.heap.size 5 1 encB (.slice kA n kc) acc ∧
    (∀ k, (Value.slice jA n jc).ownBlock = some k → (Value.slice kA n kc).ownBlock ≠ some k) ∧ Below w.heap.size w wr ∧ w.heap.size ≤ gj ∧ w.heap.size ≤ gk

theorem fin {w wr w2 w3 w5 w7 w8 : World} {gj gk j : Nat} {taken : Int} {jA kA bA : Option Addr} {SX : Nat → Prop} {n jc kc bn bc : Nat} {acc bs : List UInt8} {last : Bool} {r : Option Int} {jb' kb' : Value}
    (hj : 0 ≤ taken) (hj2 : taken ≤ j) (hn : n ≤ 262144) (hna : n = acc.length) (hacc : (tkAcc acc bs last r).length ≤ 262144)
    (bj : Blk wr gj 31 (mkJ taken (.slice jA n jc))) (oj : Own wr w.heap.size 5 1 encB (.slice jA n jc) acc)
    (bk : Blk wr gk 42 (mkK taken (.slice kA n kc))) (ok : Own wr w.heap.size 5 1 encB (.slice kA n kc) acc)
    (sep : ∀ k, (Value.slice jA n jc).ownBlock = some k → (Value.slice kA n kc).ownBlock ≠ some k) (hB : Below w.heap.size w wr) (hgj : w.heap.size ≤ gj) (hgk : w.heap.size ≤ gk)
    (ob : Own w2 wr.heap.size 5 1 encB (.slice bA bn bc) bs) (h2 : Below wr.heap.size wr w2)
    (bj3 : Blk w3 gj 31 (mkJ (tkTaken taken r) jb')) (oj3 : Own w3 w.heap.size 5 1 encB jb' (tkAcc acc bs last r))
    (h3 : Chg (fun k => k = gj ∨ (Value.slice jA n jc).ownBlock = some k) w2 w3) (sj : ∀ k, jb'.ownBlock = some k → (Value.slice jA n jc).ownBlock = some k ∨ w2.heap.size ≤ k)
    (sx : ∀ k, SX k → ((Value.slice jA n jc).ownBlock = some k ∨ w2.heap.size ≤ k) ∧ w.heap.size ≤ k ∧ jb'.ownBlock ≠ some k)
    (bk5 : Blk w5 gk 42 (mkK (tkTaken taken r) kb')) (ok5 : Own w5 w.heap.size 5 1 encB kb' (tkAcc acc bs last r))
    (h5 : Chg (fun k => k = gk ∨ (Value.slice kA n kc).ownBlock = some k) w3 w5) (sk : ∀ k, kb'.ownBlock = some k → (Value.slice kA n kc).ownBlock = some k ∨ w3.heap.size ≤ k)
    (hX3 : ∀ k, SX k → k < w3.heap.size) (xgk : ∀ k, SX k → k ≠ gk) (xgj : ∀ k, SX k → k ≠ gj)
    (h7 : Chg SX w5 w7) (h8 : Chg (fun k => blockOf bA = some k) w7 w8) : Inv w gj gk (j + 1) w8 := by
  have e1 : wr.heap.size ≤ w2.heap.size := h2.size
  have e2 := h3.size
  have e3 := h5.size
  have ljb : ∀ k, (Value.slice jA n jc).ownBlock = some k → k < wr.heap.size := fun k hk => (oj.lt hk).2
  have lkb : ∀ k, (Value.slice kA n kc).ownBlock = some k → k < wr.heap.size := fun k hk => (ok.lt hk).2
  have lgj := bj.lt
  have lgk := bk.lt
  have hbb : ∀ k, blockOf bA = some k → wr.heap.size ≤ k ∧ k < w2.heap.size := fun k hk => ob.lt (by cases bA with | none => cases hk | some a => simpa [blockOf, Value.ownBlock] using hk)
  have ejk : gj ≠ gk := bj.apart bk (by decide)
  have gjb : ∀ k, (Value.slice kA n kc).ownBlock = some k → k ≠ gj := fun k hk h => by subst h; exact ok.apart bj (by decide) hk
  -- gj
  have bj5 := bj3.chg h5 (fun h => by rcases h with h | h; exact ejk h; exact gjb gj h rfl)
  have bj8 := (bj5.chg h7 (fun h => xgj gj h rfl)).chg h8 (fun h => by have := (hbb gj h).1; omega)
  have bk8 := (bk5.chg h7 (fun h => xgk gk h rfl)).chg h8 (fun h => by have := (hbb gk h).1; omega)
  have sj' : ∀ k, jb'.ownBlock = some k → ¬ (k = gk ∨ (Value.slice kA n kc).ownBlock = some k) := fun k hk h => by
    rcases h with h | h
    · subst h
      rcases sj k hk with h' | h'
      · have := oj.apart bk (by decide); exact this h'
      · omega
    · rcases sj k hk with h' | h'
      · exact sep k h' h
      · have := lkb k h; omega
  have oj8 := ((oj3.chg h5 sj').chg h7 (fun k hk h => (sx k h).2.2 hk)).chg h8 (fun k hk h => by
    have hb := hbb k h
    rcases sj k hk with h' | h'
    · have := ljb k h'; omega
    · omega)
  have ok8 := (ok5.chg h7 (fun k hk h => by
    rcases sk k hk with h' | h'
    · rcases (sx k h).1 with h'' | h''
      · exact sep k h'' h'
      · have := lkb k h'; omega
    · have := hX3 k h; omega)).chg h8 (fun k hk h => by
    have hb := hbb k h
    rcases sk k hk with h' | h'
    · have := lkb k h'; omega
    · omega)
  obtain ⟨A1, n1, c1, rfl, hn1, _⟩ := oj8.form
  obtain ⟨A2, n2, c2, rfl, hn2, _⟩ := ok8.form
  have e12 : n1 = n2 := hn1.out.trans hn2.out.symm
  subst e12
  refine ⟨tkTaken taken r, A1, A2, n1, c1, c2, tkAcc acc bs last r, ?_, ?_, ?_, hn1.out, bj8, oj8, bk8, ok8, ?_, ?_, hgj, hgk⟩
  · cases r <;> simp [tkTaken] <;> omega
  · cases r <;> simp [tkTaken] <;> omega
  · rw [hn1.out]; exact hacc
  · intro k hk h
    rcases sj k hk with h' | h'
    · rcases sk k h with h'' | h''
      · exact sep k h' h''
      · have := ljb k h'; omega
    · rcases sk k h with h'' | h''
      · have := lkb k h''; omega
      · have := (oj3.lt hk).2; omega
  · refine ⟨h8.os.trans (h7.os.trans (h5.os.trans (h3.os.trans (h2.os.trans hB.os)))), h8.tape.trans (h7.tape.trans (h5.tape.trans (h3.tape.trans (h2.tape.trans hB.tape)))), h8.output.trans (h7.output.trans (h5.output.trans (h3.output.trans (h2.output.trans hB.output)))),
      by have := hB.size; have := h7.size; have := h8.size; omega, fun k hk => ?_⟩
    have hw := hB.size
    rw [h8.block k (by have := h7.size; omega) (fun h => by have := (hbb k h).1; omega), h7.block k (by omega) (fun h => by have := (sx k h).2.1; omega), h5.block k (by omega) (fun h => by
      rcases h with h | h
      · omega
      · have := (ok.lt h).1; omega), h3.block k (by omega) (fun h => by
      rcases h with h | h
      · omega
      · have := (oj.lt h).1; omega), h2.block k (by omega), hB.block k hk]

theorem acc_le (taken : Int) (acc bs : List UInt8) (seq : Int) (last : Bool) (h : acc.length ≤ 262144) : (tkAcc acc bs last (tkErr taken acc bs seq last)).length ≤ 262144 := by
  unfold tkErr
  split
  · simpa [tkAcc] using h
  · split
    · simpa [tkAcc] using h
    · rename_i hh
      cases last
      · simp [tkAcc]; omega
      · simp [tkAcc]

theorem quiet_left {P : Program} {f : FuncId} {args : Array Value} {w : World} {n : Nat} {v : Value} (h : Calls P f args (w.drewN n) fun e w' => e = .returned v ∧ w.drewN n = w') : Calls P f args (w.drewN n) fun e w'' => e = .returned v ∧ ∃ m, w'' = w.drewN m :=
  h.mono fun _ _ ⟨he, hm⟩ => ⟨he, n, hm.symm⟩

theorem out_le (taken : Int) (acc bs : List UInt8) (seq : Int) (last : Bool) (h : acc.length ≤ 262144) : (tkOut acc bs last (tkErr taken acc bs seq last)).length ≤ 262144 := by
  unfold tkErr
  split
  · simp [tkOut]
  · split
    · simp [tkOut]
    · rename_i hh
      cases last
      · simp [tkOut]
      · simp [tkOut]; omega

theorem same_self {l : List UInt8} {A B : Option Addr} {ca cb : Nat} {w : World} (hl : BySl w w.heap.size A l) (hm : BySl w w.heap.size B l) (h63 : l.length ≤ maxLen) (a b : Nat) (ha : a = l.length) (hb : b = l.length) :
    Calls Try.prog 18 #[.slice A a ca, .slice B b cb] w fun e w' => e = .returned (.bool true) ∧ ∃ n, w' = w.drewN n := by
  subst ha
  subst hb
  have h := same_any l l A B ca cb w hl hm h63 h63
  rwa [eqB_self] at h

set_option maxRecDepth 100000 in
set_option maxHeartbeats 4000000 in
theorem walk (l : List Act) (A : Option Addr) (cap : Nat) (w : World) (hl : Sl w w.heap.size 3 Act.cells A l) (hok : ∀ a ∈ l, Act.Ok w a) (n : Nat) (hn : Hid (n = l.length)) (h63 : n ≤ maxLen) :
    Calls Try.prog 5 #[.slice A n cap] w fun e w' => e = .returned (.bool true) ∧ Below w.heap.size w w' := by
  unfold maxLen at h63
  by_cases h200 : 200 < n
  · go_enter Try.func5, Try.ntmps5
    go_wp2
    go_ret
    exact ⟨rfl, Below.refl _ _⟩
  · go_enter Try.func5, Try.ntmps5
    go_wp2_with (go_at_call 15; refine (new_any w).mono ?_; rintro e w' ⟨rfl, rfl⟩)
    have hB0 : Below w.heap.size w ((w.alloc (.cells (mkJ 0 (.slice none 0 0)) 31)).alloc (.cells #[.int .i64 0, .slice none 0 0] 42)) := ((Below.refl _ _).alloc (Nat.le_refl _) _).alloc (by simp) _
    have hI0 : Inv w w.heap.size (w.heap.size + 1) 0 ((w.alloc (.cells (mkJ 0 (.slice none 0 0)) 31)).alloc (.cells #[.int .i64 0, .slice none 0 0] 42)) :=
      ⟨0, none, none, 0, 0, 0, [], by omega, by omega, by omega, rfl, (Blk.new w _ _).alloc _, Own.nil_ _ _ _ _ _, by have h := Blk.new (w.alloc (.cells (mkJ 0 (.slice none 0 0)) 31)) 42 #[.int .i64 0, .slice none 0 0]; simp at h; exact h, Own.nil_ _ _ _ _ _, (fun k hk => by cases hk), hB0, Nat.le_refl _, Nat.le_succ _⟩
    generalize ((w.alloc (.cells (mkJ 0 (.slice none 0 0)) 31)).alloc (.cells #[.int .i64 0, .slice none 0 0] 42)) = w0 at *
    have HI0 := Lib.hid hI0
    clear hI0 hB0
    go_loopg [5] n (fun g v wr => ∃ j : Nat, n ≤ j + g ∧ j ≤ n ∧ v = .int .i64 j ∧ Inv w w.heap.size (w.heap.size + 1) j wr)
    case atStart => exact ⟨0, by omega, by omega, rfl, HI0.out⟩
    case round =>
      obtain ⟨j, hg, hj, rfl, hI⟩ := hrel
      obtain ⟨taken, jA, kA, nn, jc, kc, acc, ht0, ht1, hnn, hna, bj, oj, bk, ok, sep, hB, hgj, hgk⟩ := hI
      by_cases hlt : j < n
      · have hlt' : j < l.length := by rw [← hn.out]; exact hlt
        have hx : l[j]? = some l[j] := List.getElem?_eq_getElem hlt'
        have hact := hok l[j] (List.getElem_mem hlt')
        obtain ⟨bb, off, rfl, hbb, c0, c1, c2⟩ := act_at (hl.below hB) hx
        generalize l[j] = a at *
        have b1 : (0 : Int) ≤ (j : Int) := Int.natCast_nonneg _
        have b2 : (j : Int) < (n : Int) := by omega
        have hseq : -9223372036854775808 ≤ a.seq ∧ a.seq ≤ 9223372036854775807 := by simpa [Lit.wf, IntKind.min, IntKind.max, IntKind.signed, IntKind.bits] using hact.seq
        obtain ⟨hs1, hs2⟩ := hseq
        have hnm : a.n ≤ 9223372036854775807 := by have := hact.le; unfold maxLen at this; omega
        have HF := Lib.hid (And.intro bj (And.intro oj (And.intro bk (And.intro ok (And.intro sep (And.intro hB hact))))))
        have HN := Lib.hid hna
        clear hx hact bj oj bk ok sep hna
        by_cases t1 : 100 < a.n
        · go_wp2
          go_ret
          exact ⟨rfl, HF.out.2.2.2.2.2.1⟩
        · by_cases t2 : 1048576 < a.seq
          · go_wp2
            go_ret
            exact ⟨rfl, HF.out.2.2.2.2.2.1⟩
          · by_cases t3 : a.seq < -1048576
            · go_wp2
              go_ret
              exact ⟨rfl, HF.out.2.2.2.2.2.1⟩
            · have k0 : wr.cell? ⟨w.heap.size + 1, 0, none⟩ = some (.int .i64 taken) := HF.out.2.2.1.cell 0
              go_wp2
              have q1 : IntKind.i64.wrap (taken + 1) = taken + 1 := IntWalk.i64_in _ (by omega)
              have q2 : IntKind.i64.wrap (taken + 1 + a.seq) = taken + 1 + a.seq := IntWalk.i64_in _ (by omega)
              go_quiet (fail)
              clear q1 q2
              obtain ⟨bj, oj, bk, ok, sep, hB, hact⟩ := HF.out
              have hacc := acc_le taken acc a.bs (taken + 1 + a.seq) a.last (by rw [← HN.out]; omega)
              have hcp := Lib.hid (copy_any a.bs a.A a.n a.cap (wr.drewN nq) ((hact.sl.below hB).more hB.size) (by rw [← hact.n.out]; omega) hact.n)
              have HP := Lib.hid (And.intro bj (And.intro oj (And.intro bk (And.intro ok (And.intro sep (And.intro hB (And.intro hact hacc)))))))
              clear bj oj bk ok sep hact hacc HF k0
              go_wp2_with fail
              refine (hcp.out).mono ?_
              rintro e w2 ⟨bv, rfl, hob, h2⟩
              obtain ⟨bA, bn, bc, rfl, hbn, hble, hbmx⟩ := hob.form
              have hws := hB.size
              have d1 : w2.cell? ⟨bb, off + j * 3 + 1, none⟩ = some (.bool a.last) := (h2.cell (p := ⟨bb, _, none⟩) (by simp; omega)).trans c1
              have d2 : w2.cell? ⟨bb, off + j * 3 + 2, none⟩ = some (.slice a.A a.n a.cap) := (h2.cell (p := ⟨bb, _, none⟩) (by simp; omega)).trans c2
              have hbl : bn ≤ 100 := by rw [hbn.out, ← HP.out.2.2.2.2.2.2.1.n.out]; omega
              have h2' : Below wr.heap.size wr w2 := ⟨h2.os, h2.tape, h2.output, h2.size, h2.block⟩
              have ob : Own w2 wr.heap.size 5 1 encB (.slice bA bn bc) a.bs := hob
              have hbg : ∀ k, blockOf bA = some k → k ≠ w.heap.size := fun k hk h => by
                have h1 := (ob.lt (g := k) (by cases bA with | none => cases hk | some a => simpa [blockOf, Value.ownBlock] using hk)).1
                have h3 := HP.out.1.lt
                omega
              have hgb : ∀ k, blockOf bA = some k → wr.heap.size ≤ k ∧ k < w2.heap.size := fun k hk => ob.lt (g := k) (by cases bA with | none => cases hk | some a => simpa [blockOf, Value.ownBlock] using hk)
              have htk := Lib.hid (take_all w2 w.heap.size w.heap.size jA nn jc taken (taken + 1 + a.seq) acc a.bs a.last bA bn bc HN.out hbn ht0 (by omega) hnn (Nat.le_trans hble hbmx) (HP.out.1.ext h2') (HP.out.2.1.below h2') (ob.sls encB_len) (by have := h2'.size; omega) hbg)
              have HQ := Lib.hid (And.intro h2' (And.intro ob (And.intro hbg hgb)))
              clear h2 h2' hob ob hbg hgb c0 c1 c2 hcp hB
              go_wp2_with fail
              refine (htk.out).mono ?_
              rintro e w3 ⟨X, xc, jb', rfl, bj3, oj3, hX, hXc, h3, sj, sx⟩
              have bgj : w.heap.size ≤ bb → False := fun h => by omega
              have e2 : w2.heap.size ≤ w3.heap.size := h3.size
              have ew : wr.heap.size ≤ w2.heap.size := HQ.out.1.size
              have d1' : w3.cell? ⟨bb, off + j * 3 + 1, none⟩ = some (.bool a.last) := (h3.cell (p := ⟨bb, _, none⟩) (by simp; omega) (fun h => by
                rcases h with h | h
                · simp at h; omega
                · have := (HP.out.2.1.lt h).1; simp at this; omega)).trans d1
              have d2' : w3.cell? ⟨bb, off + j * 3 + 2, none⟩ = some (.slice a.A a.n a.cap) := (h3.cell (p := ⟨bb, _, none⟩) (by simp; omega) (fun h => by
                rcases h with h | h
                · simp at h; omega
                · have := (HP.out.2.1.lt h).1; simp at this; omega)).trans d2
              have bk3 : Blk w3 (w.heap.size + 1) 42 (mkK taken (.slice kA nn kc)) := (HP.out.2.2.1.ext HQ.out.1).chg h3 (fun h => by
                rcases h with h | h
                · omega
                · exact HP.out.2.1.apart HP.out.2.2.1 (by decide) h)
              have ok3 : Own w3 w.heap.size 5 1 encB (.slice kA nn kc) acc := (HP.out.2.2.2.1.below HQ.out.1).chg h3 (fun k hk h => by
                rcases h with h | h
                · subst h; exact HP.out.2.2.2.1.apart HP.out.1 (by decide) hk
                · exact HP.out.2.2.2.2.1 k h hk)
              have sa3 : BySl w3 w3.heap.size a.A a.bs := fun hne => by
                obtain ⟨g0, o0, hA0, hg0, hc0⟩ := HP.out.2.2.2.2.2.2.1.sl hne
                refine ⟨g0, o0, hA0, by omega, fun k x hx jj v hv => ?_⟩
                rw [h3.cell (p := ⟨g0, _, none⟩) (by simp; omega) (fun h => by
                  rcases h with h | h
                  · simp at h; omega
                  · have := (HP.out.2.1.lt h).1; simp at this; omega), HQ.out.1.cell (p := ⟨g0, _, none⟩) (by simp; omega), HP.out.2.2.2.2.2.1.cell (p := ⟨g0, _, none⟩) (by simp; omega)]
                exact hc0 k x hx jj v hv
              have agk : ∀ k, blockOf a.A = some k → a.bs ≠ [] → k < w.heap.size := fun k hk hne => by
                obtain ⟨g0, o0, hA0, hg0, _⟩ := HP.out.2.2.2.2.2.2.1.sl hne
                rw [hA0] at hk; simp [blockOf] at hk; omega
              have AG := Lib.hid agk
              have hrt := Lib.hid (rtake_any w3.drew (w.heap.size + 1) w.heap.size kA nn kc taken (taken + 1 + a.seq) acc a.bs a.last a.A a.n a.cap HN.out HP.out.2.2.2.2.2.2.1.n ht0 (by omega) hnn HP.out.2.2.2.2.2.2.1.le bk3 ok3 sa3 (by simp; omega) (fun hne k hk h => by have := agk k hk hne; omega))
              have H3 := Lib.hid (And.intro bj3 (And.intro oj3 (And.intro hX (And.intro hXc (And.intro h3 (And.intro sj (And.intro sx sa3)))))))
              clear bj3 oj3 hX hXc h3 sj sx sa3 agk d1 d2 htk bk3 ok3 bgj
              have hbl5 : Hid (bb < w3.drew.heap.size) := by show bb < w3.heap.size; omega
              have hbn5 : Hid (¬ (bb = w.heap.size + 1 ∨ (Value.slice kA nn kc).ownBlock = some bb)) := fun h => by
                rcases h with h | h
                · omega
                · have := (HP.out.2.2.2.1.lt h).1; omega
              go_wp2_with fail
              go_region_held3 (fun w' => w'.cell? ⟨bb, off + j * 3 + 1, none⟩ = some (.bool a.last) ∧ w'.cell? ⟨bb, off + j * 3 + 2, none⟩ = some (.slice a.A a.n a.cap))
                (first | go_keep | (exact ⟨(h5.cell (p := ⟨bb, _, none⟩) hbl5.out hbn5.out).trans d1', (h5.cell (p := ⟨bb, _, none⟩) hbl5.out hbn5.out).trans d2'⟩)) (first | (go_at_call 17; refine (hrt.out).mono ?_; rintro e w5 ⟨Y, yc, kb', rfl, bk5, ok5, hY, hYc, h5, sk, sy⟩))
              obtain ⟨bj3, oj3, hX, hXc, h3, sj, sx, sa3⟩ := H3.out
              have hout := out_le taken acc a.bs (taken + 1 + a.seq) a.last (by rw [← HN.out]; exact hnn)
              have hac := HP.out.2.2.2.2.2.2.2
              have n5 : w3.heap.size ≤ w5.heap.size := h5.size
              have lgk : w.heap.size + 1 < wr.heap.size := HP.out.2.2.1.lt
              have lgj : w.heap.size < wr.heap.size := HP.out.1.lt
              have h5' : Chg (fun k => k = w.heap.size + 1 ∨ (Value.slice kA nn kc).ownBlock = some k) w3 w5 := ⟨h5.os, h5.tape, h5.output, h5.size, h5.block⟩
              have xgk : ∀ k, blockOf X = some k → k ≠ w.heap.size + 1 := fun k hk h => by
                rcases (sx k hk).1 with h' | h'
                · subst h; exact HP.out.2.1.apart HP.out.2.2.1 (by decide) h'
                · omega
              have xgj : ∀ k, blockOf X = some k → k ≠ w.heap.size := fun k hk h => by
                rcases (sx k hk).1 with h' | h'
                · subst h; exact HP.out.2.1.apart HP.out.1 (by decide) h'
                · omega
              have xkb : ∀ k, blockOf X = some k → ¬ (k = w.heap.size + 1 ∨ (Value.slice kA nn kc).ownBlock = some k) := fun k hk h => by
                rcases h with h | h
                · exact xgk k hk h
                · rcases (sx k hk).1 with h' | h'
                  · exact HP.out.2.2.2.2.1 k h' h
                  · have := (HP.out.2.2.2.1.lt h).2; omega
              have hX5 := Sl.chg hX h5' xkb
              have hXc5 := hXc.chg h5' xkb
              have hb3 : ∀ k, blockOf bA = some k → ¬ (k = w.heap.size ∨ (Value.slice jA nn jc).ownBlock = some k) := fun k hk h => by
                have hbb := HQ.out.2.2.2 k hk
                rcases h with h | h
                · omega
                · have := (HP.out.2.1.lt h).2; omega
              have hb5 : ∀ k, blockOf bA = some k → ¬ (k = w.heap.size + 1 ∨ (Value.slice kA nn kc).ownBlock = some k) := fun k hk h => by
                have hbb := HQ.out.2.2.2 k hk
                rcases h with h | h
                · omega
                · have := (HP.out.2.2.2.1.lt h).2; omega
              have hbsl := Sl.chg (Sl.chg (HQ.out.2.1.sls encB_len) h3 hb3) h5' hb5
              have hbc : CellsAt w5 5 .u8 bA bn := by
                have h0 := HQ.out.2.1
                obtain rfl : bn = a.bs.length := hbn.out
                exact ((CellsAt.of_own (f := fun b : UInt8 => (b.toNat : Int)) h0).chg h3 hb3).chg h5' hb5
              have hasl : BySl w5 w5.heap.size a.A a.bs := by
                by_cases hne : a.bs = []
                · rw [hne]; exact Sl.nil _ _ _ _ _
                · exact Sl.chg sa3 h5' (fun k hk h => by
                    have := AG.out k hk hne
                    rcases h with h | h
                    · omega
                    · have := (HP.out.2.2.2.1.lt h).1; omega)
              have s1 := Lib.hid (fun q => same_self (ca := xc) (cb := yc) (w := w5.drewN q) hX5 hY (by unfold maxLen; omega) _ _ rfl rfl)
              have s2 := Lib.hid (fun q => same_self (ca := bc) (cb := a.cap) (w := w5.drewN q) hbsl hasl (by rw [← hbn.out]; exact Nat.le_trans hble hbmx) _ _ hbn.out HP.out.2.2.2.2.2.2.1.n.out)
              have bj5 := bj3.chg h5' (fun h => by
                rcases h with h | h
                · omega
                · exact HP.out.2.2.2.1.apart HP.out.1 (by decide) h)
              have tkn := Lib.hid (fun q => taken_made (w5.drewN q) w.heap.size _ _ (bj5.drewN q))
              have k5 : w5.cell? ⟨w.heap.size + 1, 0, none⟩ = some (.int .i64 (tkTaken taken (tkErr taken acc a.bs (taken + 1 + a.seq) a.last))) := bk5.cell 0
              have g1 : w5.cell? ⟨bb, off + j * 3 + 2, none⟩ = some (.slice a.A a.n a.cap) := (h5.cell (p := ⟨bb, _, none⟩) hbl5.out hbn5.out).trans d2'
              have HR := Lib.hid (And.intro h5' (And.intro xgk (And.intro xgj (And.intro hXc5 (And.intro hbc (And.intro bk5 (And.intro ok5 (And.intro sk hac))))))))
              clear bj3 bj5 oj3 hX hXc h3 sj sx sa3 h5' xgk xgj xkb hX5 hXc5 hb3 hb5 hbsl hbc hasl h5 hY hYc sy bk5 ok5 sk hac d1' d2' hrt
              generalize tkErr taken acc a.bs (taken + 1 + a.seq) a.last = r at *
              generalize tkOut acc a.bs a.last r = xs at *
              generalize tkWhole a.last r = wh at *
              generalize tkCode r = cd at *
              generalize xs.length = m at *
              go_wp2_with fail
              go_quiet ((first | (go_at_call 18; with_reducible exact Calls.quiet_of (s1.out _)) | (go_at_call 18; with_reducible exact Calls.quiet_of (s2.out _)) | (go_at_call 14; with_reducible exact quiet_left (tkn.out _))))
              go_wp2_with fail
              obtain ⟨go, Hgo⟩ : ∃ x : Nat, Hid (x = gk) := ⟨_, rfl⟩
              obtain ⟨wo, Hwo⟩ : ∃ x : World, Hid (x = wr) := ⟨_, rfl⟩
              have hm1 : (m : Int) ≤ 262144 := by omega
              have HX0 := Lib.hid (And.intro HR.out.2.2.2.1 (Chg.refl (fun b => 0 < m ∧ blockOf X = some b) w5))
              clear k5 g1
              go_loopg [14] m (fun g v wl => ∃ k : Nat, m ≤ k + g ∧ k ≤ m ∧ v = .int .i64 k ∧ Hid (CellsAt wl 5 .u8 X m ∧ Chg (fun b => 0 < m ∧ blockOf X = some b) w5 wl))
              case atStart => exact ⟨0, by omega, by omega, rfl, HX0.out.1, HX0.out.2.drewN _⟩
              case round =>
                obtain ⟨k, hk1, hk2, rfl, HL⟩ := hrel
                by_cases hkm : k < m
                · obtain ⟨g, cur, rfl, hb, hz⟩ : ∃ g cur, X = some ⟨g, 0, none⟩ ∧ Blk wr g 5 cur ∧ ∀ j, j < m → ∃ z, cur[j]? = some (.int .u8 z) := by
                    rcases HL.out.1 with h | h
                    · omega
                    · exact h
                  obtain ⟨z, hz⟩ := hz k hkm
                  have cc : wr.cell? ⟨g, k, none⟩ = some (.int .u8 z) := (hb.cell k).trans hz
                  have ff := hb.free k
                  clear hb hz
                  go_wp2
                  go_roundg (gk - 1)
                  case measure => omega
                  case rel => exact ⟨k + 1, by omega, by omega, by go_num, HL.out.1.set_ k _, HL.out.2.setCell (p := ⟨g, k, none⟩) (fun _ => ⟨by omega, rfl⟩) _⟩
                · have HL7 := HL
                  clear HL
                  go_wp2_with fail
                  obtain ⟨w7, Hw7⟩ : ∃ x : World, Hid (x = wr) := ⟨_, rfl⟩
                  have hbn1 : (bn : Int) ≤ 100 := by omega
                  have HB7 : Hid (CellsAt wr 5 .u8 bA bn) := HR.out.2.2.2.2.1.chg HL7.out.2 (fun g hg h => by
                    have h1 := HQ.out.2.2.2 g hg
                    rcases (H3.out.2.2.2.2.2.2.1 g h.2).1 with h' | h'
                    · have := (HP.out.2.1.lt h').2; omega
                    · omega)
                  go_loopg [15] bn (fun g v wl => ∃ k : Nat, bn ≤ k + g ∧ k ≤ bn ∧ v = .int .i64 k ∧ Hid (CellsAt wl 5 .u8 bA bn ∧ Chg (fun b => blockOf bA = some b) w7 wl))
                  case atStart => exact ⟨0, by omega, by omega, rfl, HB7.out, by rw [Hw7.out]; exact Chg.refl _ _⟩
                  case round =>
                    obtain ⟨k', hk1', hk2', rfl, HLb⟩ := hrel
                    by_cases hkm' : k' < bn
                    · obtain ⟨g, cur, rfl, hb, hz⟩ : ∃ g cur, bA = some ⟨g, 0, none⟩ ∧ Blk wr g 5 cur ∧ ∀ j, j < bn → ∃ z, cur[j]? = some (.int .u8 z) := by
                        rcases HLb.out.1 with h | h
                        · omega
                        · exact h
                      obtain ⟨z, hz⟩ := hz k' hkm'
                      have cc : wr.cell? ⟨g, k', none⟩ = some (.int .u8 z) := (hb.cell k').trans hz
                      have ff := hb.free k'
                      clear hb hz
                      go_wp2
                      go_roundg (gk - 1)
                      case measure => omega
                      case rel => exact ⟨k' + 1, by omega, by omega, by go_num, HLb.out.1.set_ k' _, HLb.out.2.setCell (p := ⟨g, k', none⟩) (fun _ => rfl) _⟩
                    · go_wp2
                      go_roundg (go - 1)
                      case measure => have := Hgo.out; omega
                      case rel =>
                        refine ⟨j + 1, by have := Hgo.out; omega, by omega, by go_num, ?_⟩
                        obtain ⟨bj, oj, bk, ok, sep, hB, hact, _⟩ := HP.out
                        obtain ⟨h2, ob, _, _⟩ := HQ.out
                        obtain ⟨bj3, oj3, hX, hXc, h3, sj, sx, _⟩ := H3.out
                        obtain ⟨h5, xgk, xgj, _, _, bk5, ok5, sk, hac⟩ := HR.out
                        exact fin (SX := fun b => 0 < m ∧ blockOf X = some b) ht0 ht1 hnn HN.out hac bj oj bk ok sep hB hgj hgk ob h2 bj3 oj3 h3 sj (fun k hk => sx k hk.2) bk5 ok5 h5 sk
                          (fun k hk => by
                            rcases hXc with h | ⟨g, cur, hg, hb, _⟩
                            · have := hk.1; omega
                            · have := hk.2
                              rw [hg] at this
                              simp [blockOf] at this
                              subst this
                              exact hb.lt) (fun k hk => xgk k hk.2) (fun k hk => xgj k hk.2) (by rw [Hw7.out]; exact HL7.out.2) HLb.out.2
      · go_wp2
        go_ret
        exact ⟨rfl, hB⟩

set_option maxRecDepth 100000 in
theorem lifted (os : Os) (started : os.Started) (H : Type) (enc : TypeId × Value → H) :
    ReturnsInHanded {} Try.checked os 5 .any (Rows.chunkJoinsSpec.pre6 enc Try.prog Try.f5 Rows.chunkJoinsRow.domain false) (Rows.chunkJoinsSpec.post enc Try.prog Try.f5 false true false false) := by
  refine returnsInHanded_of_change_sized (C := Try.checked) own started (by kernel_rfl) Try.func5
    (ChangeSpec.witness6 (enc := enc) (C := Try.checked) false ⟨#[], #[.slice none 0 0], []⟩ 8 (by kernel_rfl) (by kernel_rfl) (by kernel_rfl) (by kernel_rfl)) ?_
  intro W base args ds gs before hval0 hW hcnd hsz0 _
  have hval : ∀ (j : Nat) t v, Try.f5.params[j]? = some t → args[j]? = some v → Value.okWide Try.prog W .any base t v := hval0
  have hW' := hW
  obtain ⟨p, q, hA0, hV, rfl, hfz, hnd⟩ := hW
  have hA : DataW.TrodAll enc Try.prog W 0 (fun _ => true) true Try.f5.params.toList args.toList ds p := hA0
  have hsz : (DataW.weightsEach Try.prog (Try.f5.params.toList ++ []) (ds ++ gs)).all (· ≤ reachBytes) = true := hsz0
  rw [Try.params5] at hA hval hsz
  have hAll := hA
  obtain ⟨v0, vs0, d0, ds0, p0, q0, hargs, rfl, rfl, h0, r0⟩ := trodAll_cons hA
  obtain ⟨rfl, rfl, rfl⟩ := trodAll_nil r0
  obtain rfl : args = #[v0] := by cases args; simp_all
  obtain ⟨rfl, rfl⟩ := trodVars_none hV
  obtain ⟨l_A, l, l_cap, rfl, l_sl, l_ok, l_le, l_max, l_reach, l_nil⟩ := open_sl Try.underlying38 (c := 3) (by kernel_rfl) (by decide) opens_act (hval 0 38 v0 rfl rfl) h0 (light_of hsz (j := 0) rfl rfl)
  refine (walk l l_A l_cap W l_sl l_ok l.length rfl (Nat.le_trans l_le l_max)).mono fun e W' ⟨he, bel⟩ => ?_
  subst he
  exact ⟨_, rfl, _, _, _, [], _, [], hW', trodAll_mk1 (shut_bool Try.underlying4 _), keep_args laidOut bel (by kernel_rfl) hAll, rfl, bel.frame _, fun h => by cases h⟩

theorem over : Rows.chunkJoinsRow.holds Try.pinned (OpenSpec.ofChange Rows.chunkJoinsSpec) :=
  OpenClaim.holds_of_wide 5 Try.f5 rfl rfl rfl rfl rfl rfl rfl ⟨rfl, rfl, rfl, rfl, rfl⟩ rfl rfl rfl rfl rfl (by kernel_rfl) Try.func5 (by kernel_rfl)
    (of_decide_eq_true (by kernel_rfl)) (by unfold Func.isWrapper; first | (rw [if_pos (by decide +kernel)]; kernel_rfl) | (rw [if_neg (by decide +kernel)]; exact ⟨rfl, rfl⟩))
    (fun os started H enc _ => lifted os started H enc)

theorem proved : Rows.ChunkJoinsSaid := over
#print axioms proved
end Go.Proofs.Ytfpdiblnbbhhmaa.lawJoins
