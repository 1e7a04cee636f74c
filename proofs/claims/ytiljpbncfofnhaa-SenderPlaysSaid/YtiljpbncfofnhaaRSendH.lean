/- sender: the program's sender and the document's side by side: what each act makes of both. -/
import Derived.Test.YtiljpbncfofnhaaRSendG
import Derived.Test.YtiljpbncfofnhaaSendK
import Derived.Outline
import Derived.BigQuiet
import Derived.Deep.QuietTactic
import Derived.Deep.RegionWith
import Derived.Deep.RegionHeld3
import Derived.Deep.DrawnRows
import Derived.Deep.LoopGhost
import Derived.Deep.DeepCutAuto
import Derived.Laws.EntriesVeiled
namespace Go.Proofs.Ytiljpbncfofnhaa.Send
open Go.RowKit Go.ChangeShapes Go.WideShapes Go.ChangeAt
set_option linter.unusedVariables false
set_option linter.unusedSimpArgs false
attribute [local go_sem ↓] Go.wp_at_zero Go.wp_at_succ

/-- both senders, apart from one another, in memory made behind w0; beside them, at x, the law's own act -/
structure Both (w0 w : World) (g h x : Nat) (ac : Act) (F G : Nat → Prop) (s t : St) : Prop where
  a : SIn w0 w g F s
  b : Rnd w h G t
  gb : ∀ k, G k → w0.heap.size ≤ k
  ap : ∀ k, F k → ¬ G k
  sa : s.Ok
  sb : t.Ok
  box : Blk w x 30 #[.int .u8 ac.kind, .int .i64 ac.seq, .slice ac.A ac.n ac.cap]
  bx : ¬ F x ∧ ¬ G x
theorem Rnd.lt {w : World} {g : Nat} {F : Nat → Prop} {s : St} (h : Rnd w g F s) : ∀ k, F k → k < w.heap.size := by
  obtain ⟨_, _, _, _, h⟩ := h
  exact h.lt
theorem Rnd.fg {w : World} {g : Nat} {F : Nat → Prop} {s : St} (h : Rnd w g F s) : F g := by
  obtain ⟨_, _, _, _, h⟩ := h
  exact h.fg
section
variable {w0 w w' : World} {g h x : Nat} {ac : Act} {F G : Nat → Prop} {s t s' t' : St}
theorem Both.chg {S : Nat → Prop} (H : Both w0 w g h x ac F G s t) (hc : Chg S w w') (hS : ∀ k, S k → w0.heap.size ≤ k) (hF : ∀ k, F k → ¬ S k) (hG : ∀ k, G k → ¬ S k) (hx : ¬ S x) : Both w0 w' g h x ac F G s t :=
  ⟨H.a.chg hc hS hF, H.b.chg hc hG, H.gb, H.ap, H.sa, H.sb, H.box.chg hc hx, H.bx⟩
theorem Both.ext (H : Both w0 w g h x ac F G s t) (hb : Below w.heap.size w w') : Both w0 w' g h x ac F G s t :=
  H.chg (S := fun _ => False) (Chg.of_ext hb) (fun _ h => h.elim) (fun _ _ h => h) (fun _ _ h => h) (fun h => h)
theorem Both.opl (H : Both w0 w g h x ac F G s t) (ho : SndOp w g F s' w') (hs : s'.Ok) : ∃ F', Both w0 w' g h x ac F' G s' t ∧ (∀ k, F' k → F k ∨ w.heap.size ≤ k) ∧ Chg F w w' := by
  obtain ⟨F', h1, h2, h3⟩ := H.a.op ho
  refine ⟨F', ⟨h1, H.b.chg h3 (fun k hk hf => H.ap k hf hk), H.gb, fun k hf hg => ?_, hs, H.sb, H.box.chg h3 H.bx.1, fun hf => ?_, H.bx.2⟩, h2, h3⟩
  · rcases h2 k hf with h | h
    · exact H.ap k h hg
    · have := H.b.lt k hg; omega
  · rcases h2 x hf with h | h
    · exact H.bx.1 h
    · have := H.box.lt; omega
theorem Both.opr (H : Both w0 w g h x ac F G s t) (ho : RndOp w h G t' w') (hs : t'.Ok) : ∃ G', Both w0 w' g h x ac F G' s t' ∧ (∀ k, G' k → G k ∨ w.heap.size ≤ k) ∧ Chg G w w' := by
  obtain ⟨G', h1, h3, h2⟩ := ho
  refine ⟨G', ⟨H.a.chg h3 H.gb (fun k hf hk => H.ap k hf hk), h1, fun k hk => ?_, fun k hf hg => ?_, H.sa, hs, H.box.chg h3 H.bx.2, H.bx.1, fun hf => ?_⟩, h2, h3⟩
  · rcases h2 k hk with h | h
    · exact H.gb k h
    · have := H.a.below.size; omega
  · rcases h2 k hg with h | h
    · exact H.ap k hf h
    · have := H.a.lt k hf; omega
  · rcases h2 x hf with h | h
    · exact H.bx.2 h
    · have := H.box.lt; omega

theorem ack_l (H : Both w0 w g h x ac F G s t) (seq : Int) (h1 : -9223372036854775808 ≤ seq) (h2 : seq ≤ 9223372036854775807) :
    Calls Try.prog 24 #[.pointer (some ⟨g, 0, none⟩), .int .i64 seq] w fun e w' => e = .returned (.int .i64 (ackE s seq)) ∧ ∃ F', Both w0 w' g h x ac F' G (ackS s seq) t := by
  refine (ack_any w g F s seq H.a.snd H.sa h1 h2).mono ?_
  rintro e w' ⟨rfl, ho⟩
  obtain ⟨F', h1, _⟩ := H.opl ho ((ackS_facts s seq).2.2.2 H.sa)
  exact ⟨rfl, F', h1⟩
theorem ack_r (H : Both w0 w g h x ac F G s t) (seq : Int) (h1 : -9223372036854775808 ≤ seq) (h2 : seq ≤ 9223372036854775807) :
    Calls Try.prog 25 #[.pointer (some ⟨h, 0, none⟩), .int .i64 seq] w fun e w' => e = .returned (.int .i64 (ackE t seq)) ∧ ∃ G', Both w0 w' g h x ac F G' s (ackS t seq) := by
  refine (rack_any w h G t seq H.b H.sb h1 h2).mono ?_
  rintro e w' ⟨rfl, ho⟩
  obtain ⟨F', h1, _⟩ := H.opr ho ((ackS_facts t seq).2.2.2 H.sb)
  exact ⟨rfl, F', h1⟩
theorem idle_l (H : Both w0 w g h x ac F G s t) (q : Nat) : Calls Try.prog 28 #[.pointer (some ⟨g, 0, none⟩)] (w.drewN q) fun e w' => e = .returned (.bool (s.fl.isEmpty && s.wt.isEmpty)) ∧ ∃ m, w' = (w.drewN q).drewN m := by
  obtain ⟨wv, fv, wp, fp, h1⟩ := H.a.snd
  obtain ⟨B, nf, cf, rfl, hnf, _⟩ := h1.fo.own.form
  obtain ⟨A, nw, cw, rfl, hnw, _⟩ := h1.wo.own.form
  have e1 := hnf.out.trans h1.flen
  have e2 := hnw.out.trans h1.wlen
  have := H.sa.all
  refine (idle_made (w.drewN q) g A B nw cw nf cf _ _ _ _ (h1.blk.drewN q) (by omega) (by omega)).mono ?_
  rintro e w' ⟨rfl, m, rfl⟩
  refine ⟨ret_bool ?_, m, rfl⟩
  rw [e1, e2]
  cases s.fl <;> cases s.wt <;> simp <;> omega
theorem idle_r (H : Both w0 w g h x ac F G s t) (q : Nat) : Calls Try.prog 29 #[.pointer (some ⟨h, 0, none⟩)] (w.drewN q) fun e w' => e = .returned (.bool (t.fl.isEmpty && t.wt.isEmpty)) ∧ ∃ m, w' = (w.drewN q).drewN m :=
  ((H.b.chg (Chg.of_ext (S := fun _ => False) (bdrewN (Below.refl _ _) q)) (fun _ _ h => h)).idle).mono fun _ _ ⟨he, hw⟩ => ⟨he, 0, hw.symm⟩
theorem flying_l (H : Both w0 w g h x ac F G s t) (q : Nat) : Calls Try.prog 30 #[.pointer (some ⟨g, 0, none⟩)] (w.drewN q) fun e w' => e = .returned (.int .i64 (s.fl.length : Int)) ∧ ∃ m, w' = (w.drewN q).drewN m :=
  (flying_in (H.a.ext (bdrewN (Below.refl _ _) q))).mono fun _ _ ⟨he, hw⟩ => ⟨he, 0, hw.symm⟩
theorem acked_l (H : Both w0 w g h x ac F G s t) (q : Nat) : Calls Try.prog 31 #[.pointer (some ⟨g, 0, none⟩)] (w.drewN q) fun e w' => e = .returned (.int .i64 (s.acked : Int)) ∧ ∃ m, w' = (w.drewN q).drewN m :=
  (acked_in (H.a.ext (bdrewN (Below.refl _ _) q))).mono fun _ _ ⟨he, hw⟩ => ⟨he, 0, hw.symm⟩
/-- what the law itself reads of the document's sender -/
theorem Both.reads (H : Both w0 w g h x ac F G s t) : ∃ B nf cf, nf = t.fl.length ∧ w.cell? ⟨h, 1, none⟩ = some (.slice B nf cf) ∧ w.cell? ⟨h, 3, none⟩ = some (.int .i64 (t.acked : Int)) := by
  obtain ⟨wv, fv, wp, fp, h1⟩ := H.b
  obtain ⟨B, nf, cf, rfl, hnf, _⟩ := h1.fo.own.form
  exact ⟨B, nf, cf, hnf.out.trans h1.flen, h1.blk.cell 1, h1.blk.cell 3⟩

/-- pieces that the program tells, taken over; the document's in memory of their own -/
theorem both_new {w0 w : World} {ac : Act} {g h : Nat} {F G : Nat → Prop} {s t : St} (ha : SIn w0 w g F s) (hb : Rnd w h G t) (gb : ∀ k, G k → w0.heap.size ≤ k) (ap : ∀ k, F k → ¬ G k) (sa : s.Ok) (sb : t.Ok) :
    Both w0 (w.alloc (.cells #[.int .u8 ac.kind, .int .i64 ac.seq, .slice ac.A ac.n ac.cap] 30)) g h w.heap.size ac F G s t := by
  have he := below_s w (.cells #[.int .u8 ac.kind, .int .i64 ac.seq, .slice ac.A ac.n ac.cap] 30)
  exact ⟨ha.ext he, hb.chg (Chg.of_ext (S := fun _ => False) he) (fun _ _ h => h), gb, ap, sa, sb, Blk.new _ _ _, fun hf => (by have := ha.lt _ hf; omega), fun hg => (by have := hb.lt _ hg; omega)⟩

/-- what the program told, with both senders beside it -/
structure Told (w0 w : World) (g h x : Nat) (ac : Act) (F G R : Nat → Prop) (s t : St) (v : Value) (ps : List Pc) (out : List (Int × Bool × List UInt8)) : Prop where
  both : Both w0 w g h x ac F G s t
  own : PcOwn R w 57 v ps
  core : ps.map Pc.core = out
  ap : Apart ps
  r : ∀ k, R k → w0.heap.size ≤ k ∧ ¬ F k ∧ ¬ G k ∧ k ≠ x
theorem Both.outl (H : Both w0 w g h x ac F G s t) {out : List (Int × Bool × List UInt8)} {r : Ending} (ho : SndOut w g F s' out r w') (hs : s'.Ok) :
    ∃ A n cap F' R ps, r = .returned (.slice A n cap) ∧ Told w0 w' g h x ac F' G R s' t (.slice A n cap) ps out ∧ Hid (n = ps.length) := by
  obtain ⟨F', R, v, ps, rfl, h1, h2, h3, h4, h5, h6, h7⟩ := ho
  obtain ⟨A, n, cap, rfl, hn, _⟩ := h2.own.form
  obtain ⟨F2, hB, hsub, hch⟩ := H.opl (s' := s') ⟨F', h1, h5, h6⟩ hs
  have hsz := H.a.below.size
  have hap : ∀ k, F' k → ¬ G k := fun k hf hg => by
    rcases h6 k hf with h | h
    · exact H.ap k h hg
    · have := H.b.lt k hg; omega
  refine ⟨A, n, cap, F', R, ps, rfl, ⟨⟨⟨h1, fun k hk => ?_, hB.a.below⟩, hB.b, hB.gb, hap, hs, H.sb, hB.box, fun hf => ?_, H.bx.2⟩, h2, h3, h7, fun k hk => ?_⟩, hn⟩
  · rcases h6 k hk with h' | h'
    · exact H.a.base k h'
    · omega
  · rcases h6 x hf with h' | h'
    · exact H.bx.1 h'
    · have := H.box.lt; omega
  · obtain ⟨r1, r2⟩ := h4 k hk
    exact ⟨by omega, r2, fun hg => (by have := H.b.lt k hg; omega), fun e => (by have := H.box.lt; omega)⟩
theorem send_l (H : Both w0 w g h x ac F G s t) : Calls Try.prog 22 #[.pointer (some ⟨g, 0, none⟩)] w fun e w' => ∃ A n cap F' R ps, e = .returned (.slice A n cap) ∧ Told w0 w' g h x ac F' G R (sendS s) t (.slice A n cap) ps (sendO s) ∧ Hid (n = ps.length) :=
  (send_any w g F s H.a.snd H.sa).mono fun _ _ ho => H.outl ho ((sendS_facts s).2.2.2 H.sa)
theorem tick_l (H : Both w0 w g h x ac F G s t) : Calls Try.prog 26 #[.pointer (some ⟨g, 0, none⟩)] w fun e w' => ∃ A n cap F' R ps, e = .returned (.slice A n cap) ∧ Told w0 w' g h x ac F' G R (tickS s) t (.slice A n cap) ps (tickO s) ∧ Hid (n = ps.length) :=
  (tick_any w g F s H.a.snd H.sa).mono fun _ _ ho => H.outl ho ((tickS_facts s).2.2.2 H.sa)
/-- ... taken over -/
structure Taken (w0 w : World) (g h x : Nat) (ac : Act) (F G : Nat → Prop) (s t : St) (A : Option Addr) (n cap : Nat) (qs : List Pc) (out : List (Int × Bool × List UInt8)) : Prop where
  both : Both w0 w g h x ac F G s t
  sl : Sl w w.heap.size 3 Pc.cells (A) qs
  rd : ∀ q ∈ qs, q.Rd w
  n : Hid (n = qs.length)
  core : qs.map Pc.core = out
  ap : ∀ k, G k → (∀ j, blockOf A = some j → j ≠ k) ∧ ∀ q ∈ qs, ∀ j, blockOf q.A = some j → j ≠ k
theorem taken_l {R : Nat → Prop} {A : Option Addr} {n cap : Nat} {ps : List Pc} {out : List (Int × Bool × List UInt8)} (H : Told w0 w g h x ac F G R s t (.slice A n cap) ps out) (hn : Hid (n = ps.length)) (hm : n ≤ 100000) :
    Calls Try.prog 21 #[.slice A n cap] w fun e w' => ∃ A2 n2 c2 qs, e = .returned (.slice A2 n2 c2) ∧ Taken w0 w' g h x ac F G s t A2 n2 c2 qs out := by
  refine (pieces_any ps A n cap R w H.own H.ap hm hn).mono ?_
  rintro e w' ⟨A2, n2, c2, qs, rfl, h1, h2, h3, h4⟩
  have hB := H.both.chg h3 (fun k hk => (H.r k hk).1) (fun k hf hk => (H.r k hk).2.1 hf) (fun k hg hk => (H.r k hk).2.2.1 hg) (fun hk => (H.r x hk).2.2.2 rfl)
  refine ⟨A2, n2, c2, qs, rfl, hB, h1.own.sl Pc.cells_len, fun q hq => (h1.ok q hq).rd, h4, h2.trans H.core, fun k hk => ⟨fun j hj e => ?_, fun q hq j hj e => ?_⟩⟩
  · have h5 := H.both.b.lt k hk
    have h6 : w.heap.size ≤ j := h1.blk j (h1.own.blk hj)
    omega
  · have h5 := H.both.b.lt k hk
    have h6 : w.heap.size ≤ j := h1.fp q hq j hj
    omega
/-- ... and the document's beside them -/
structure Paired (w0 w : World) (g h x : Nat) (ac : Act) (F G : Nat → Prop) (s t : St) (A : Option Addr) (n cap : Nat) (qs : List Pc) (B : Option Addr) (m cap2 : Nat) (rs : List Pc) : Prop where
  both : Both w0 w g h x ac F G s t
  sl : Sl w w.heap.size 3 Pc.cells (A) qs
  rd : ∀ q ∈ qs, q.Rd w
  n : Hid (n = qs.length)
  sl2 : Sl w w.heap.size 3 Pc.cells (B) rs
  rd2 : ∀ q ∈ rs, q.Rd w
  m : Hid (m = rs.length)
  core : qs.map Pc.core = rs.map Pc.core
theorem Taken.outr {A : Option Addr} {n cap : Nat} {qs : List Pc} {out : List (Int × Bool × List UInt8)} {r : Ending} (H : Taken w0 w g h x ac F G s t A n cap qs out) (ho : RndOut w h G t' out r w') (hs : t'.Ok) :
    ∃ B m cap2 G' rs, r = .returned (.slice B m cap2) ∧ Paired w0 w' g h x ac F G' s t' A n cap qs B m cap2 rs := by
  obtain ⟨G', R, v, ps, rfl, h1, h2, h3, h4, h5, h6⟩ := ho
  obtain ⟨B, m, cap2, rfl, hm, _⟩ := h2.own.form
  have hB := H.both
  have hsz := hB.a.below.size
  have hap : ∀ k, F k → ¬ G' k := fun k hf hg => by
    rcases h6 k hg with h | h
    · exact hB.ap k hf h
    · have := hB.a.lt k hf; omega
  refine ⟨B, m, cap2, G', ps, rfl, ⟨hB.a.chg h5 hB.gb (fun k hf hk => hB.ap k hf hk), h1, fun k hk => ?_, hap, hB.sa, hs, hB.box.chg h5 hB.bx.2, hB.bx.1, fun hf => ?_⟩, Sl.chg H.sl h5 (fun j hj hk => (H.ap j hk).1 j hj rfl), fun q hq => ?_, H.n, h2.own.sl Pc.cells_len, fun q hq => (h2.ok q hq).rd, hm, H.core.trans h3.symm⟩
  · rcases h6 k hk with h' | h'
    · exact hB.gb k h'
    · omega
  · rcases h6 x hf with h' | h'
    · exact hB.bx.2 h'
    · have := hB.box.lt; omega
  · have o := H.rd q hq
    exact ⟨Sl.chg o.sl h5 (fun j hj hk => (H.ap j hk).2 q hq j hj rfl), o.n, o.le, o.cap, o.nil⟩
theorem send_r {A : Option Addr} {n cap : Nat} {qs : List Pc} (H : Taken w0 w g h x ac F G s t A n cap qs (sendO t)) : Calls Try.prog 23 #[.pointer (some ⟨h, 0, none⟩)] w fun e w' => ∃ B m cap2 G' rs, e = .returned (.slice B m cap2) ∧ Paired w0 w' g h x ac F G' s (sendS t) A n cap qs B m cap2 rs :=
  (rsend_any w h G t H.both.b H.both.sb).mono fun _ _ ho => H.outr ho ((sendS_facts t).2.2.2 H.both.sb)
theorem tick_r {A : Option Addr} {n cap : Nat} {qs : List Pc} (H : Taken w0 w g h x ac F G s t A n cap qs (tickO t)) : Calls Try.prog 27 #[.pointer (some ⟨h, 0, none⟩)] w fun e w' => ∃ B m cap2 G' rs, e = .returned (.slice B m cap2) ∧ Paired w0 w' g h x ac F G' s (tickS t) A n cap qs B m cap2 rs :=
  (rtick_any w h G t H.both.b H.both.sb).mono fun _ _ ho => H.outr ho ((tickS_facts t).2.2.2 H.both.sb)
theorem same_p {A B : Option Addr} {n cap m cap2 : Nat} {qs rs : List Pc} (H : Paired w0 w g h x ac F G s t A n cap qs B m cap2 rs) (hm : n ≤ 100000) :
    Calls Try.prog 20 #[.slice A n cap, .slice B m cap2] w fun e w' => e = .returned (.bool true) ∧ Both w0 w' g h x ac F G s t := by
  refine (same27_any qs rs A B n m cap cap2 w H.sl H.rd H.sl2 H.rd2 H.n H.m hm H.core).mono ?_
  rintro e w' ⟨rfl, q, rfl⟩
  exact ⟨rfl, H.both.ext (bdrewN (Below.refl _ _) q)⟩
end
end Go.Proofs.Ytiljpbncfofnhaa.Send
