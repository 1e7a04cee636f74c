/- sender: both senders side by side: Load of chunks of the law's own and of the argument's. -/
import Derived.Test.YtiljpbncfofnhaaRSendH
import Derived.Outline
import Derived.BigQuiet
import Derived.Deep.QuietTactic
import Derived.Deep.RegionWith
import Derived.Deep.RegionHeld3
import Derived.Deep.DrawnRows
import Derived.Deep.LoopGhost
import Derived.Deep.DeepCutAuto
import Derived.Laws.EntriesVeiled
namespace Go.Proofs.Ytiljpbncfofnhaa.Send
open Go.RowKit Go.ChangeShapes Go.WideShapes Go.ChangeAt
set_option linter.unusedVariables false
set_option linter.unusedSimpArgs false
attribute [local go_sem ↓] Go.wp_at_zero Go.wp_at_succ

/-- the law's own copies: in the blocks from B0 to B1, each in a block of its own; those from m on read as they did -/
structure Mine (B0 B1 : Nat) (w : World) (v : Value) (cs : List Ch) (m : Nat) : Prop where
  own : OwnA w 36 1 Ch.cells v cs
  blk : ∀ k, v.ownBlock = some k → B0 ≤ k ∧ k < B1
  ok : ∀ i c, m ≤ i → cs[i]? = some c → OwnA w 5 1 encB (.slice c.A c.n c.cap) c.bs
  each : ∀ c ∈ cs, ∀ k, blockOf c.A = some k → B0 ≤ k ∧ k < B1
  apart : ∀ (i j : Nat) (ci cj : Ch), i < j → cs[i]? = some ci → cs[j]? = some cj → ∀ k, blockOf ci.A = some k → blockOf cj.A ≠ some k
theorem Mine.chg {B0 B1 : Nat} {w w' : World} {v : Value} {cs : List Ch} {m : Nat} {S : Nat → Prop} (h : Mine B0 B1 w v cs m) (hc : Chg S w w') (hS : ∀ k, B0 ≤ k → k < B1 → ¬ S k) : Mine B0 B1 w' v cs m :=
  ⟨h.own.chg hc (fun k hk => hS k (h.blk k hk).1 (h.blk k hk).2), h.blk, fun i c hi hx => (h.ok i c hi hx).chg hc (fun k hk => by
    have hb : blockOf c.A = some k := by cases hA : c.A with
      | none => rw [hA] at hk; cases hk
      | some a => rw [hA] at hk; simpa [blockOf, Value.ownBlock] using hk
    have h1 := h.each c (List.mem_of_getElem? hx) k hb
    exact hS k h1.1 h1.2), h.each, h.apart⟩
structure Lds (w0 w : World) (g h x : Nat) (ac : Act) (F G : Nat → Prop) (s t : St) (B0 B1 : Nat) (v : Value) (cs : List Ch) (m : Nat) : Prop where
  both : Both w0 w g h x ac F G s t
  mine : Mine B0 B1 w v cs m
  fa : ∀ k, F k → k < B0 ∨ B1 ≤ k
  ga : ∀ k, G k → k < B0 ∨ B1 ≤ k
  xa : x < B0
  b0 : w0.heap.size ≤ B0
  b1 : B1 ≤ w.heap.size
section
variable {w0 w w' : World} {g h x : Nat} {ac : Act} {F G : Nat → Prop} {s t : St} {B0 B1 : Nat} {v : Value} {cs : List Ch} {m : Nat}
theorem Lds.start {src : List (List UInt8)} (H : Both w0 w g h x ac F G s t) (ho : OwnCh w w' v src cs) : Lds w0 w' g h x ac F G s t w.heap.size w'.heap.size v cs 0 :=
  ⟨H.ext ho.below, ⟨ho.own, fun k hk => ⟨ho.fresh k hk, ho.own.lt hk⟩, fun i c _ hx => ho.ok c (List.mem_of_getElem? hx), fun c hc k hk => ⟨ho.each c hc k hk, (ho.ok c hc).lt (blk_own hk)⟩, ho.apart⟩,
    fun k hk => .inl (H.a.lt k hk), fun k hk => .inl (H.b.lt k hk), H.box.lt, H.a.below.size, Nat.le_refl _⟩
theorem Lds.len {A : Option Addr} {n cap : Nat} (H : Lds w0 w g h x ac F G s t B0 B1 (.slice A n cap) cs m) : n = cs.length := H.mine.own.len
theorem own_ok {c : Ch} (h : OwnA w 5 1 encB (.slice c.A c.n c.cap) c.bs) : Ch.Ok w c := by
  obtain ⟨A2, n2, c2, hv, hn, hle, hmx, hnil⟩ := h.form
  injection hv with h1 h2 h3
  subst h1; subst h2; subst h3
  exact ⟨h.sl encB_len, hn, Nat.le_trans hle hmx, hle, hnil⟩
theorem lds_l {A : Option Addr} {n cap : Nat} (H : Lds w0 w g h x ac F G s t B0 B1 (.slice A n cap) cs 0) (bl : List (List UInt8)) (hbl : cs.map Ch.bs = bl) (hm : n ≤ 1000) (htot : s.tot + n ≤ 900000) :
    Calls Try.prog 17 #[.pointer (some ⟨g, 0, none⟩), .slice A n cap] w fun e w' => e = .returned (.int .i64 (lE s bl)) ∧ ∃ F', Lds w0 w' g h x ac F' G (lS s bl) t B0 B1 (.slice A n cap) cs 0 := by
  subst hbl
  have hn := H.len
  have hoks : ∀ c ∈ cs, Ch.Ok w c := fun c hc => by
    obtain ⟨i, hi⟩ := List.getElem?_of_mem hc
    exact own_ok (H.mine.ok i c (Nat.zero_le _) hi)
  obtain ⟨e1, e2⟩ := loadE_eq s cs hoks
  have hlf := lS_facts s (cs.map Ch.bs)
  refine (load_any w g F s H.both.a.snd H.both.sa cs A n cap (H.mine.own.sl Ch.cells_len) hoks hn hm (fun _ k hk hF => ?_) (fun c hc _ k hk hF => ?_) (by simp only [St.tot] at htot; omega)).mono ?_
  · have h1 := H.mine.blk k (blk_own hk)
    have := H.fa k hF
    omega
  · have h1 := H.mine.each c hc k hk
    have := H.fa k hF
    omega
  rintro e w' ⟨rfl, ho⟩
  rw [e2] at ho
  rw [e1]
  obtain ⟨F', h1, h2, h3⟩ := H.both.opl ho (hlf.2.2.2 H.both.sa (by rw [List.length_map]; omega))
  exact ⟨rfl, F', h1, H.mine.chg h3 (fun k a b hk => by have := H.fa k hk; omega), fun k hk => (h2 k hk).elim (H.fa k) (fun e => .inr (Nat.le_trans H.b1 e)), H.ga, H.xa, H.b0, Nat.le_trans H.b1 h3.size⟩
theorem lds_r {A : Option Addr} {n cap : Nat} {ds : List Ch} (H : Lds w0 w g h x ac F G s t B0 B1 v cs 0) (hl : ChSl w0 w0.heap.size A ds) (hok : ∀ c ∈ ds, Ch.Ok w0 c) (hn : Hid (n = ds.length)) (hm : n ≤ 1000) (htot : t.tot + n ≤ 900000) :
    Calls Try.prog 18 #[.pointer (some ⟨h, 0, none⟩), .slice A n cap] w fun e w' => e = .returned (.int .i64 (lE t (ds.map Ch.bs))) ∧ ∃ G', Lds w0 w' g h x ac F G' s (lS t (ds.map Ch.bs)) B0 B1 v cs 0 := by
  have hoks : ∀ c ∈ ds, Ch.Ok w c := fun c hc => (hok c hc).ext H.both.a.below
  obtain ⟨e1, e2⟩ := loadE_eq t ds hoks
  have hlf := lS_facts t (ds.map Ch.bs)
  have hnn := hn.out
  refine (rload_any w h G t H.both.b H.both.sb ds A n cap (Sl.ext hl H.both.a.below) hoks hn hm (fun hne k hk hF => ?_) (fun c hc hne k hk hF => ?_) (by simp only [St.tot] at htot; omega)).mono ?_
  · have h1 := Sl.blk_lt hl hne k hk
    have := H.both.gb k hF
    omega
  · have h1 := Sl.blk_lt (hok c hc).sl hne k hk
    have := H.both.gb k hF
    omega
  rintro e w' ⟨rfl, ho⟩
  rw [e2] at ho
  rw [e1]
  obtain ⟨F', h1, h2, h3⟩ := H.both.opr ho (hlf.2.2.2 H.both.sb (by rw [List.length_map]; omega))
  exact ⟨rfl, F', h1, H.mine.chg h3 (fun k a b hk => by have := H.ga k hk; omega), H.fa, fun k hk => (h2 k hk).elim (H.ga k) (fun e => .inr (Nat.le_trans H.b1 e)), H.xa, H.b0, Nat.le_trans H.b1 h3.size⟩
theorem Lds.ext (H : Lds w0 w g h x ac F G s t B0 B1 v cs m) (hb : Below w.heap.size w w') : Lds w0 w' g h x ac F G s t B0 B1 v cs m :=
  ⟨H.both.ext hb, H.mine.chg (S := fun _ => False) (Chg.of_ext hb) (fun _ _ _ h => h), H.fa, H.ga, H.xa, H.b0, Nat.le_trans H.b1 hb.size⟩
/-- ... while the bytes of copy k are written over -/
structure LdIn (w0 w : World) (g h x : Nat) (ac : Act) (F G : Nat → Prop) (s t : St) (B0 B1 : Nat) (v : Value) (cs : List Ch) (k : Nat) (c : Ch) (bs : List UInt8) : Prop where
  q : Lds w0 w g h x ac F G s t B0 B1 v cs (k + 1)
  by_ : OwnA w 5 1 encB (.slice c.A c.n c.cap) bs
  cur : cs[k]? = some c
theorem Lds.enter {k : Nat} {c : Ch} (H : Lds w0 w g h x ac F G s t B0 B1 v cs k) (hc : cs[k]? = some c) : LdIn w0 w g h x ac F G s t B0 B1 v cs k c c.bs :=
  ⟨⟨H.both, ⟨H.mine.own, H.mine.blk, fun i d hi hx => H.mine.ok i d (by omega) hx, H.mine.each, H.mine.apart⟩, H.fa, H.ga, H.xa, H.b0, H.b1⟩, H.mine.ok k c (Nat.le_refl _) hc, hc⟩
theorem LdIn.ext {k : Nat} {c : Ch} {bs : List UInt8} (H : LdIn w0 w g h x ac F G s t B0 B1 v cs k c bs) (hb : Below w.heap.size w w') : LdIn w0 w' g h x ac F G s t B0 B1 v cs k c bs := ⟨H.q.ext hb, H.by_.ext hb, H.cur⟩
theorem LdIn.step {k i : Nat} {c : Ch} {bs : List UInt8} {fb fo : Nat} {y : UInt8} (H : LdIn w0 w g h x ac F G s t B0 B1 v cs k c bs) (hA : c.A = some ⟨fb, fo, none⟩) (hi : i < bs.length) :
    LdIn w0 (w.setCell ⟨fb, fo + i, none⟩ (.int .u8 (y.toNat : Int))) g h x ac F G s t B0 B1 v cs k c (bs.set i y) := by
  have hb := H.by_
  have hst := OwnA.store (k := i) (j := 0) (x := bs[i]) (x' := y) (u := .int .u8 (y.toNat : Int)) encB_len (hA ▸ hb) (List.getElem?_eq_getElem hi) (by omega) rfl
  simp only [Nat.mul_one, Nat.add_zero] at hst
  have hch : Chg (fun i => i = fb) w (w.setCell ⟨fb, fo + i, none⟩ (.int .u8 (y.toNat : Int))) := (Chg.refl (fun i => i = fb) w).setCell (p := ⟨fb, _, none⟩) (fun _ => rfl) _
  have hfb : (Value.slice c.A c.n c.cap).ownBlock = some fb := by rw [hA]; rfl
  have hbb := H.q.mine.each c (List.mem_of_getElem? H.cur) fb (by rw [hA]; rfl)
  have hB := H.q.both.chg hch (fun k hk => by have := H.q.b0; omega) (fun k hk e => by have := H.q.fa k hk; omega) (fun k hk e => by have := H.q.ga k hk; omega) (fun e => by have := H.q.xa; omega)
  refine ⟨⟨hB, ⟨H.q.mine.own.chg hch (fun g hg e => by subst e; exact H.q.mine.own.apartA hb (by decide) hg hfb), H.q.mine.blk, fun j d hj hx => ?_, H.q.mine.each, H.q.mine.apart⟩, H.q.fa, H.q.ga, H.q.xa, H.q.b0, Nat.le_trans H.q.b1 hch.size⟩, hA ▸ hst, H.cur⟩
  refine (H.q.mine.ok j d hj hx).chg hch (fun g hg e => ?_)
  subst e
  refine H.q.mine.apart k j c d (by omega) H.cur hx g (by rw [hA]; rfl) ?_
  cases hD : d.A with
  | none => rw [hD] at hg; cases hg
  | some a => rw [hD] at hg; simpa [blockOf, Value.ownBlock] using hg
end
theorem wrap_byte (y : UInt8) : IntKind.u8.wrap ((y.toNat : Int) + 1) = ((y + 1).toNat : Int) := by
  have := y.toNat_lt
  simp only [IntKind.wrap, IntKind.signed, IntKind.bits]
  simp
end Go.Proofs.Ytiljpbncfofnhaa.Send
