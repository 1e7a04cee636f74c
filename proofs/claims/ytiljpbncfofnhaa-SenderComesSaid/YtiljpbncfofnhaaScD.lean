/- SenderComes: a sender and a joiner in memory of the law's own; what each act makes of both. -/
import Derived.Test.YtiljpbncfofnhaaScA
import Derived.Test.YtiljpbncfofnhaaJoinE
import Derived.Test.YtiljpbncfofnhaaBytes
import Derived.Outline
import Derived.BigQuiet
import Derived.Deep.QuietTactic
import Derived.Deep.RegionWith
import Derived.Deep.RegionHeld3
import Derived.Deep.DrawnRows
import Derived.Deep.LoopGhost
import Derived.Deep.DeepCutAuto
import Derived.Laws.EntriesVeiled
namespace Go.Proofs.Ytiljpbncfofnhaa.Comes
open Go.RowKit Go.ChangeShapes Go.WideShapes Go.ChangeAt
set_option linter.unusedVariables false
set_option linter.unusedSimpArgs false
attribute [local go_sem ↓] Go.wp_at_zero Go.wp_at_succ
open Send JoinB JoinE

/-- what the two own: the sender's blocks F, the joiner's block gj and its bytes jb -/
def Mine (F : Nat → Prop) (gj : Nat) (jb : Value) (k : Nat) : Prop := F k ∨ k = gj ∨ jb.ownBlock = some k

structure Mem (w0 w : World) (gs gj : Nat) (F : Nat → Prop) (jb : Value) (c : Cm) (G : Option Addr) : Prop where
  sin : SIn w0 w gs F c.s
  jblk : Blk w gj 108 (mkJ (c.tk : Int) jb)
  jown : Own w w0.heap.size 5 1 encB jb c.acc
  gb : w0.heap.size ≤ gj
  djg : ¬ F gj
  djb : ∀ k, jb.ownBlock = some k → ¬ F k
  got : BySl w w.heap.size G c.got
  dgot : ∀ k, blockOf G = some k → ¬ Mine F gj jb k ∧ k < w.heap.size

section
variable {w0 w w' : World} {gs gj : Nat} {F F' : Nat → Prop} {jb : Value} {c : Cm} {G : Option Addr}

theorem Mem.chg {S : Nat → Prop} (h : Mem w0 w gs gj F jb c G) (hc : Chg S w w') (hS : ∀ k, S k → w0.heap.size ≤ k ∧ ¬ Mine F gj jb k ∧ blockOf G ≠ some k) : Mem w0 w' gs gj F jb c G :=
  ⟨h.sin.chg hc (fun k hk => (hS k hk).1) (fun k hk hs => (hS k hs).2.1 (.inl hk)), h.jblk.chg hc (fun hs => (hS _ hs).2.1 (.inr (.inl rfl))), h.jown.chg hc (fun k hk hs => (hS k hs).2.1 (.inr (.inr hk))), h.gb, h.djg, h.djb,
    h.got.chg hc (fun k hk hs => (hS k hs).2.2 hk), fun k hk => ⟨(h.dgot k hk).1, Nat.lt_of_lt_of_le (h.dgot k hk).2 hc.size⟩⟩
theorem Mem.ext (h : Mem w0 w gs gj F jb c G) (hb : Below w.heap.size w w') : Mem w0 w' gs gj F jb c G := h.chg (Chg.of_ext (S := fun _ => False) hb) (fun _ h => h.elim)
theorem Mem.below (h : Mem w0 w gs gj F jb c G) : Below w0.heap.size w0 w := h.sin.below
theorem Mem.size (h : Mem w0 w gs gj F jb c G) : w0.heap.size ≤ w.heap.size := h.sin.below.size
/-- without what came -/
theorem Mem.drop (h : Mem w0 w gs gj F jb c G) : Mem w0 w gs gj F jb { c with got := [] } none := ⟨h.sin, h.jblk, h.jown, h.gb, h.djg, h.djb, Sl.nil _ _ _ _ _, fun k hk => by cases hk⟩
theorem Mem.cast {c' : Cm} (h : Mem w0 w gs gj F jb c G) (e : c = c') : Mem w0 w gs gj F jb c' G := e ▸ h

/-- behind an act on the sender -/
theorem Mem.op {s' : St} (h : Mem w0 w gs gj F jb c G) (h1 : Snd w' gs F' s') (hc : Chg F w w') (hg : ∀ k, F' k → F k ∨ w.heap.size ≤ k) : Mem w0 w' gs gj F' jb { c with s := s' } G := by
  have hj := h.jblk.lt
  refine ⟨⟨h1, fun k hk => ?_, h.sin.below.trans (hc.below h.sin.below.size (fun i hi hs => by have := h.sin.base i hs; omega))⟩, h.jblk.chg hc h.djg, h.jown.chg hc (fun k hk => h.djb k hk), h.gb, fun hk => ?_, fun k hk hf => ?_,
    h.got.chg hc (fun k hk hs => (h.dgot k hk).1 (.inl hs)), fun k hk => ⟨fun hm => ?_, Nat.lt_of_lt_of_le (h.dgot k hk).2 hc.size⟩⟩
  · rcases hg k hk with h' | h'
    · exact h.sin.base k h'
    · have := h.sin.below.size; omega
  · rcases hg _ hk with h' | h'
    · exact h.djg h'
    · omega
  · rcases hg k hf with h' | h'
    · exact h.djb k hk h'
    · have := (h.jown.lt hk).2; omega
  · have hd := h.dgot k hk
    rcases hm with hm | hm
    · rcases hg k hm with h' | h'
      · exact hd.1 (.inl h')
      · omega
    · exact hd.1 (.inr hm)

/-- what a call that tells pieces leaves -/
structure MemOut (w0 w : World) (gs gj : Nat) (F : Nat → Prop) (jb : Value) (c' : Cm) (G : Option Addr) (out : List Told) (A : Option Addr) (n cap : Nat) (F' : Nat → Prop) (ps : List Pc) (w' : World) : Prop where
  mem : Mem w0 w' gs gj F' jb c' G
  own : PcOwn (fun k => w.heap.size ≤ k ∧ ¬ F' k) w' 57 (.slice A n cap) ps
  n : Hid (n = ps.length)
  core : ps.map Pc.core = out
  chg : Chg F w w'
  grow : ∀ k, F' k → F k ∨ w.heap.size ≤ k
theorem Mem.out {s' : St} {out : List Told} {r : Ending} (h : Mem w0 w gs gj F jb c G) (ho : SndOut w gs F s' out r w') :
    ∃ A n cap F' ps, r = .returned (.slice A n cap) ∧ MemOut w0 w gs gj F jb { c with s := s' } G out A n cap F' ps w' := by
  obtain ⟨F', R, v, ps, rfl, h1, h2, h3, h4, h5, h6, h7⟩ := ho
  obtain ⟨A, n, cap, rfl, hn, _⟩ := h2.own.form
  exact ⟨A, n, cap, F', ps, rfl, h.op h1 h5 h6, h2.mono h4, hn, h3, h5, h6⟩

theorem tick_mem (h : Mem w0 w gs gj F jb c G) (hs : c.s.Ok) : Calls Try.prog 26 #[.pointer (some ⟨gs, 0, none⟩)] w fun e w' => ∃ A n cap F' ps, e = .returned (.slice A n cap) ∧ MemOut w0 w gs gj F jb { c with s := tickS c.s } G (tickO c.s) A n cap F' ps w' :=
  (tick_any w gs F c.s h.sin.snd hs).mono fun _ _ ho => h.out ho
theorem send_mem (h : Mem w0 w gs gj F jb c G) (hs : c.s.Ok) : Calls Try.prog 22 #[.pointer (some ⟨gs, 0, none⟩)] w fun e w' => ∃ A n cap F' ps, e = .returned (.slice A n cap) ∧ MemOut w0 w gs gj F jb { c with s := sendS c.s } G (sendO c.s) A n cap F' ps w' :=
  (send_any w gs F c.s h.sin.snd hs).mono fun _ _ ho => h.out ho
theorem ack_mem (h : Mem w0 w gs gj F jb c G) (hs : c.s.Ok) (seq : Int) (h1 : -9223372036854775808 ≤ seq) (h2 : seq ≤ 9223372036854775807) :
    Calls Try.prog 24 #[.pointer (some ⟨gs, 0, none⟩), .int .i64 seq] w fun e w' => e = .returned (.int .i64 (ackE c.s seq)) ∧ ∃ F', Mem w0 w' gs gj F' jb { c with s := ackS c.s seq } G ∧ Chg F w w' ∧ ∀ k, F' k → F k ∨ w.heap.size ≤ k := by
  refine (ack_any w gs F c.s seq h.sin.snd hs h1 h2).mono ?_
  rintro e w' ⟨rfl, F', k1, k2, k3⟩
  exact ⟨rfl, F', h.op k1 k2 k3, k2, k3⟩
theorem load_mem {w1 : World} (h : Mem w0 w1 gs gj F jb c G) (hs : c.s.Ok) (cs : List Ch) (A : Option Addr) (n cap : Nat) (hf : ChFresh w1 w A n cap cs) (bl : List (List UInt8)) (hbl : cs.map Ch.bs = bl) (hm : bl.length ≤ 1000) (htot : c.s.acked + bl.length ≤ 900000) :
    Calls Try.prog 17 #[.pointer (some ⟨gs, 0, none⟩), .slice A n cap] w fun e w' => e = .returned (.int .i64 (lE c.s bl)) ∧ ∃ F', Mem w0 w' gs gj F' jb { c with s := lS c.s bl } G := by
  refine (load_row h.sin hs cs A n cap hf bl hbl hm htot).mono ?_
  rintro e w' ⟨rfl, F', k1, k2, k3⟩
  exact ⟨rfl, F', (h.ext hf.below).op k1.snd k3 k2⟩
theorem idle_mem (h : Mem w0 w gs gj F jb c G) (hs : c.s.Ok) : Calls Try.prog 28 #[.pointer (some ⟨gs, 0, none⟩)] w fun e w' => e = .returned (.bool (idleB c.s)) ∧ ∃ m, w' = w.drewN m := by
  obtain ⟨wv, fv, wp, fp, h1⟩ := h.sin.snd
  obtain ⟨B, nf, cf, rfl, hnf, _⟩ := h1.fo.own.form
  obtain ⟨A, nw, cw, rfl, hnw, _⟩ := h1.wo.own.form
  have e1 := hnf.out.trans h1.flen
  have e2 := hnw.out.trans h1.wlen
  have := hs.all
  refine (idle_made w gs A B nw cw nf cf _ _ _ _ h1.blk (by omega) (by omega)).mono ?_
  rintro e w' ⟨rfl, m, rfl⟩
  refine ⟨ret_bool ?_, m, rfl⟩
  rw [e1, e2]
  unfold idleB
  cases c.s.fl <;> cases c.s.wt <;> simp <;> omega
theorem taken_mem (h : Mem w0 w gs gj F jb c G) : Calls Try.prog 37 #[.pointer (some ⟨gj, 0, none⟩)] w fun e w' => e = .returned (.int .i64 (c.tk : Int)) ∧ w = w' := taken_made w gj (c.tk : Int) jb h.jblk

/-- pieces that can be read, beside what the two own -/
structure Pcs (w : World) (Q : Nat → Prop) (A : Option Addr) (ps : List Pc) : Prop where
  sl : Sl w w.heap.size 3 Pc.cells A ps
  rd : ∀ p ∈ ps, p.Rd w
  da : ∀ k, blockOf A = some k → ¬ Q k ∧ k < w.heap.size
  dp : ∀ p ∈ ps, ∀ k, blockOf p.A = some k → ¬ Q k ∧ k < w.heap.size
theorem Pcs.chg {S Q Q' : Nat → Prop} {A : Option Addr} {ps : List Pc} (h : Pcs w Q A ps) (hc : Chg S w w') (hS : ∀ k, S k → Q k) (hQ : ∀ k, Q' k → Q k ∨ w.heap.size ≤ k) : Pcs w' Q' A ps := by
  have key : ∀ k, (¬ Q k ∧ k < w.heap.size) → (¬ Q' k ∧ k < w'.heap.size) := fun k ⟨h1, h2⟩ => ⟨fun hk => by
    rcases hQ k hk with h' | h'
    · exact h1 h'
    · omega, Nat.lt_of_lt_of_le h2 hc.size⟩
  refine ⟨h.sl.chg hc (fun k hk hs => (h.da k hk).1 (hS k hs)), fun p hp => ?_, fun k hk => key k (h.da k hk), fun p hp k hk => key k (h.dp p hp k hk)⟩
  have r := h.rd p hp
  exact ⟨r.sl.chg hc (fun k hk hs => (h.dp p hp k hk).1 (hS k hs)), r.n, r.le, r.cap, r.nil⟩
theorem Pcs.ext {Q : Nat → Prop} {A : Option Addr} {ps : List Pc} (h : Pcs w Q A ps) (hb : Below w.heap.size w w') : Pcs w' Q A ps :=
  h.chg (Chg.of_ext (S := fun _ => False) hb) (fun _ h => h.elim) (fun k hk => .inl hk)

/-- what a tick told and what a Send told, one behind the other -/
theorem out_join {w1 w2 w3 : World} {F1 F2 : Nat → Prop} {c1 c2 : Cm} {o1 o2 : List Told} {A1 A2 A3 : Option Addr} {n1 n2 n3 p1 p2 p3 : Nat} {ps1 ps2 : List Pc}
    (h : Mem w0 w gs gj F jb c G) (h1 : MemOut w0 w gs gj F jb c1 G o1 A1 n1 p1 F1 ps1 w1) (h2 : MemOut w0 w1 gs gj F1 jb c2 G o2 A2 n2 p2 F2 ps2 w2)
    (hown : OwnA w3 57 3 Pc.cells (.slice A3 n3 p3) (ps1 ++ ps2)) (hc : Chg (fun k => (Value.slice A1 n1 p1).ownBlock = some k) w2 w3)
    (hat : (Value.slice A3 n3 p3).ownBlock = (Value.slice A1 n1 p1).ownBlock ∨ (Value.slice A3 n3 p3).ownBlock = some w2.heap.size) :
    Mem w0 w3 gs gj F2 jb c2 G ∧ Pcs w3 (Mine F2 gj jb) A3 (ps1 ++ ps2) := by
  have z1 := h1.chg.size
  have z2 := h2.chg.size
  have z3 := hc.size
  have hj := h.jblk.lt
  have key : ∀ k, w.heap.size ≤ k → ¬ F1 k → k < w1.heap.size → w0.heap.size ≤ k ∧ ¬ Mine F2 gj jb k ∧ blockOf G ≠ some k := fun k a1 a2 a3 => by
    have := h.size
    refine ⟨by omega, fun hm => ?_, fun hg => by have := (h.dgot k hg).2; omega⟩
    rcases hm with hm | hm | hm
    · rcases h2.grow k hm with h' | h'
      · exact a2 h'
      · omega
    · omega
    · have := (h.jown.lt hm).2; omega
  have key2 : ∀ k, w1.heap.size ≤ k → ¬ F2 k → ¬ Mine F2 gj jb k := fun k a1 a2 hm => by
    rcases hm with hm | hm | hm
    · exact a2 hm
    · omega
    · have := (h.jown.lt hm).2; omega
  have hS : ∀ k, (Value.slice A1 n1 p1).ownBlock = some k → w0.heap.size ≤ k ∧ ¬ Mine F2 gj jb k ∧ blockOf G ≠ some k := fun k hk => key k (h1.own.blk k hk).1 (h1.own.blk k hk).2 (h1.own.own.lt hk)
  have own2 : PcOwn (fun k => w.heap.size ≤ k ∧ ¬ F1 k) w2 57 (.slice A1 n1 p1) ps1 := h1.own.chg h2.chg (fun k hk => hk.2)
  have bo : ∀ {A : Option Addr} {n p k : Nat}, blockOf A = some k → (Value.slice A n p).ownBlock = some k := fun {A n p k} hk => by cases A <;> simp_all [blockOf, Value.ownBlock]
  have mem3 := h2.mem.chg hc hS
  refine ⟨mem3, hown.sl Pc.cells_len, fun p hp => ?_, fun k hk => ?_, fun p hp k hk => ?_⟩
  · rcases List.mem_append.1 hp with hp | hp
    · have o := own2.ok p hp
      exact Pc.Ok.rd ⟨o.1.chg hc (fun k hk => o.1.apartA own2.own (by decide) hk), o.2⟩
    · have o := h2.own.ok p hp
      exact Pc.Ok.rd ⟨o.1.chg hc (fun k hk => o.1.apartA own2.own (by decide) hk), o.2⟩
  · have hk' := hown.blk hk
    have hlt := hown.lt hk'
    rcases hat with hat | hat
    · exact ⟨(hS k (hat ▸ hk')).2.1, hlt⟩
    · rw [hat] at hk'; injection hk' with hk'
      refine ⟨fun hm => ?_, hlt⟩
      rcases hm with hm | hm | hm
      · have := h2.mem.sin.lt k hm; omega
      · omega
      · have := (h.jown.lt hm).2; omega
  · rcases List.mem_append.1 hp with hp | hp
    · have o := own2.ok p hp
      have hf := h1.own.fp p hp k hk
      have hlt := (h1.own.ok p hp).1.lt (bo hk)
      exact ⟨(key k hf.1 hf.2 hlt).2.1, by omega⟩
    · have hf := h2.own.fp p hp k hk
      have hlt := (h2.own.ok p hp).1.lt (bo hk)
      exact ⟨key2 k hf.1 hf.2, by omega⟩

theorem tk_cast (c : Cm) (p : Told) : tkTaken (c.tk : Int) (errOf c p) = (tkOf c p : Int) := by
  unfold tkOf
  have : 0 ≤ tkTaken (c.tk : Int) (errOf c p) := by
    cases errOf c p <;> simp only [tkTaken] <;> omega
  omega

/-- a piece that comes -/
theorem take_mem (h : Mem w0 w gs gj F jb c G) (p : Pc) (hp : p.Rd w) (hd : ∀ k, blockOf p.A = some k → k ≠ gj) (ht : c.tk ≤ 1000000) (ha : c.acc.length ≤ 262144) :
    Calls Try.prog 36 #[.pointer (some ⟨gj, 0, none⟩), .int .i64 p.seq, .bool p.last, .slice p.A p.n p.cap] w fun e w' =>
      ∃ X n xc jb', e = .returned (.tuple #[.slice X n xc, .bool (tkWhole p.last (errOf c p.core)), .int .i64 (tkCode (errOf c p.core))]) ∧ Hid (n = (tkOut c.acc p.bs p.last (errOf c p.core)).length) ∧
        Mem w0 w' gs gj F jb' { c with tk := tkOf c p.core, acc := tkAcc c.acc p.bs p.last (errOf c p.core), got := gotOf c p.core } (if tkWhole p.last (errOf c p.core) then X else G) ∧
        Chg (fun k => k = gj ∨ jb.ownBlock = some k) w w' ∧ (∀ k, Mine F gj jb' k → Mine F gj jb k ∨ w.heap.size ≤ k) := by
  obtain ⟨A, na, jc, rfl, hna, _⟩ := h.jown.form
  have hle := hp.le
  have hpn := hp.n.out
  have hE : tkErr (c.tk : Int) c.acc p.bs p.seq p.last = errOf c p.core := rfl
  have H := take_all w gj w0.heap.size A na jc (c.tk : Int) p.seq c.acc p.bs p.last p.A p.n p.cap hna hp.n (by omega) (by omega) (by rw [hna.out]; exact ha) (by unfold maxLen; omega) h.jblk h.jown hp.sl h.size hd
  rw [hE] at H
  refine H.mono ?_
  rintro e w' ⟨X, xc, jb', rfl, k1, k2, k3, k4, k5, k6, k7⟩
  have hj := h.jblk.lt
  have hjne : ∀ k, (Value.slice A na jc).ownBlock = some k → k ≠ gj := fun k hk e => by subst e; exact h.jown.apart h.jblk (by decide) hk
  have hS : ∀ k, (k = gj ∨ (Value.slice A na jc).ownBlock = some k) → ¬ F k := fun k hk hf => by
    rcases hk with hk | hk
    · exact h.djg (hk ▸ hf)
    · exact h.djb k hk hf
  have hSb : ∀ k, (k = gj ∨ (Value.slice A na jc).ownBlock = some k) → w0.heap.size ≤ k := fun k hk => by
    rcases hk with hk | hk
    · have := h.gb; omega
    · exact (h.jown.lt hk).1
  have hgrow : ∀ k, Mine F gj jb' k → Mine F gj (.slice A na jc) k ∨ w.heap.size ≤ k := fun k hk => by
    rcases hk with hk | hk | hk
    · exact .inl (.inl hk)
    · exact .inl (.inr (.inl hk))
    · rcases k6 k hk with h' | h'
      · exact .inl (.inr (.inr h'))
      · exact .inr h'
  refine ⟨X, _, xc, jb', rfl, rfl, ⟨h.sin.chg k5 hSb (fun k hf hk => hS k hk hf), ?_, k2, h.gb, h.djg, fun k hk hf => ?_, ?_, ?_⟩, k5, hgrow⟩
  · rw [tk_cast] at k1
    exact k1
  · rcases k6 k hk with h' | h'
    · exact h.djb k h' hf
    · have := h.sin.lt k hf; omega
  · show BySl w' w'.heap.size _ (gotOf c p.core)
    unfold gotOf
    by_cases hw : tkWhole p.last (errOf c p.core) = true
    · have hw' : tkWhole p.core.2.1 (errOf c p.core) = true := hw
      rw [if_pos hw, if_pos hw']
      exact k3
    · have hw' : ¬ tkWhole p.core.2.1 (errOf c p.core) = true := hw
      rw [if_neg hw, if_neg hw']
      exact h.got.chg k5 (fun k hk hs => (h.dgot k hk).1 (.inr hs))
  · intro k hk
    by_cases hw : tkWhole p.last (errOf c p.core) = true
    · rw [if_pos hw] at hk
      obtain ⟨x1, x2, x3⟩ := k7 k hk
      have hlt : k < w'.heap.size := by
        have hne : tkOut c.acc p.bs p.last (errOf c p.core) ≠ [] ∨ X = none := by
          rcases hX : X with _ | a
          · exact .inr rfl
          · left
            cases hr : errOf c p.core with
            | some m => rw [hr] at hw; simp [tkWhole] at hw
            | none =>
              rw [hr] at hw
              simp only [tkWhole] at hw
              rw [hw]
              simp only [tkOut, if_true]
              intro h0
              have hb0 : p.bs = [] := (List.append_eq_nil_iff.1 h0).2
              have : errOf c p.core ≠ none := by
                unfold errOf tkErr
                simp only [Pc.core, hb0, List.length_nil, true_or, if_true]
                split <;> simp
              exact this hr
        rcases hne with hne | hne
        · exact k3.blk_lt hne k hk
        · rw [hne] at hk; cases hk
      refine ⟨fun hm => ?_, hlt⟩
      rcases hm with hm | hm | hm
      · rcases x1 with x1 | x1
        · exact h.djb k x1 hm
        · have := h.sin.lt k hm; omega
      · rcases x1 with x1 | x1
        · exact hjne k x1 hm
        · omega
      · exact x3 hm
    · rw [if_neg hw] at hk
      have hd := h.dgot k hk
      refine ⟨fun hm => ?_, Nat.lt_of_lt_of_le hd.2 k5.size⟩
      rcases hgrow k hm with h' | h'
      · exact hd.1 h'
      · omega
end

def encT (b : Bool) : List Value := [.bool b]
/-- is that message lost? -/
theorem lost_any (l : List Bool) (A : Option Addr) (n cap : Nat) (k : Nat) (w : World) (hl : Sl w w.heap.size 1 encT A l) (hn : Hid (n = l.length)) (hm : n ≤ 300) (hk : k ≤ 10000000) :
    Calls Try.prog 35 #[.slice A n cap, .int .i64 (k : Int)] w fun e w' => e = .returned (.bool (lostB l k)) ∧ w = w' := by
  by_cases h : k < n
  · have hx : l[k]? = some l[k] := List.getElem?_eq_getElem (by rw [← hn.out]; exact h)
    obtain ⟨b, off, rfl, hbb, hcell⟩ := Sl.at_ hl hx
    have c0 : w.cell? ⟨b, off + k, none⟩ = some (.bool l[k]) := by simpa [encT] using hcell 0 _ rfl
    have hL : lostB l k = l[k] := by
      unfold lostB
      rw [List.getD_eq_getElem?_getD, hx]; rfl
    have HL := Lib.hid hL
    generalize l[k] = x at *
    have b0 : (0 : Int) ≤ (k : Int) := Int.natCast_nonneg _
    have b1 : (k : Int) < (n : Int) := by omega
    clear hx hcell hl hL
    cases x <;> (go_enter Try.func35, Try.ntmps35; go_wp2; go_ret; exact ⟨ret_bool HL.out.symm, rfl⟩)
  · have HL : Hid (lostB l k = false) := lostB_late (by rw [← hn.out]; omega)
    have b1 : ¬ (k : Int) < (n : Int) := by omega
    go_enter Try.func35, Try.ntmps35
    go_wp2
    go_ret
    exact ⟨ret_bool HL.out.symm, rfl⟩
end Go.Proofs.Ytiljpbncfofnhaa.Comes
