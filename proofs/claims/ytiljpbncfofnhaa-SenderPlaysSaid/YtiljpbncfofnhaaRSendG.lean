/- sender: the law's pieces: what was told as the document's pieces; what was told is written over. -/
import Derived.Test.YtiljpbncfofnhaaRSendF
import Derived.Outline
import Derived.BigQuiet
import Derived.Deep.QuietTactic
import Derived.Deep.RegionWith
import Derived.Deep.RegionHeld3
import Derived.Deep.DrawnRows
import Derived.Deep.LoopGhost
import Derived.Deep.DeepCutAuto
import Derived.Laws.EntriesVeiled
namespace Go.Proofs.Ytiljpbncfofnhaa.Send
open Go.RowKit Go.ChangeShapes Go.WideShapes Go.ChangeAt
set_option linter.unusedVariables false
set_option linter.unusedSimpArgs false
attribute [local go_sem ↓] Go.wp_at_zero Go.wp_at_succ

/-- how far pieces have been taken over: j are copied, those from m on are as they were -/
structure Pq (R : Nat → Prop) (w wr : World) (A : Option Addr) (n cap : Nat) (ps ps' : List Pc) (v : Value) (qs : List Pc) (j m : Nat) : Prop where
  own : PcOwn (fun k => w.heap.size ≤ k) wr 101 v qs
  core : qs.map Pc.core = (ps.map Pc.core).take j
  be : Chg R w wr
  len : qs.length = j
  src : OwnA wr 57 3 Pc.cells (.slice A n cap) ps'
  plen : ps'.length = ps.length
  rest : ∀ i, m ≤ i → ps'[i]? = ps[i]?
  ok : ∀ i x, m ≤ i → ps[i]? = some x → x.Ok wr
theorem Pq.next {R : Nat → Prop} {w wr w6 w9 : World} {A : Option Addr} {n cap : Nat} {ps ps' : List Pc} {v v' : Value} {qs : List Pc} {j m : Nat} {f : Pc} {A6 : Option Addr} {n6 c6 : Nat} {o : Obj} (h : Pq R w wr A n cap ps ps' v qs j m) (hx : (ps.map Pc.core)[j]? = some f.core) (hle : f.bs.length ≤ 140737488355328) (hb6 : Below wr.heap.size wr w6)
    (h6 : OwnA w6 5 1 encB (.slice A6 n6 c6) f.bs) (hf6 : ∀ k, (Value.slice A6 n6 c6).ownBlock = some k → wr.heap.size ≤ k) (hown : OwnA w9 101 3 Pc.cells v' (qs ++ [⟨f.seq, f.last, A6, n6, c6, f.bs⟩])) (hc : Chg (fun k => v.ownBlock = some k) (w6.alloc o) w9)
    (hat : v'.ownBlock = v.ownBlock ∨ v'.ownBlock = some (w6.alloc o).heap.size) : Pq R w w9 A n cap ps ps' v' (qs ++ [⟨f.seq, f.last, A6, n6, c6, f.bs⟩]) (j + 1) m := by
  have hbw := h.be.size
  have hb6s := hb6.size
  have h3 := (h.own.ext hb6).ext (below_s w6 o)
  have hS3 : OwnA (w6.alloc o) 57 3 Pc.cells (.slice A n cap) ps' := (h.src.ext hb6).ext (below_s w6 o)
  have hb : Chg R w (w6.alloc o) := (h.be.trans (T := fun _ => False) (Chg.of_ext hb6) (fun _ _ h => h.elim)).trans (T := fun _ => False) (Chg.of_ext (below_s w6 o)) (fun _ _ h => h.elim)
  refine ⟨h3.app ⟨h6.ext (below_s w6 o), hle⟩ (fun k hk => Nat.le_trans hbw (hf6 k (blk_own hk))) hown hc hat (by simp; omega) (by decide), ?_, ?_, by simp [h.len], ?_, h.plen, h.rest, fun i x hi hx => ?_⟩
  · rw [List.map_append, h.core, List.take_add_one, hx]; rfl
  · exact hb.trans hc fun i hi hs => by have h4 : w.heap.size ≤ i := h.own.blk i hs; omega
  · exact hS3.chg hc fun g hg e => hS3.apartA h3.own (by decide) hg e
  · have o1 := ((h.ok i x hi hx).ext hb6).ext (below_s w6 o)
    exact ⟨o1.1.chg hc fun g hg e => o1.1.apartA h3.own (by decide) hg e, o1.2⟩
/-- ... while the bytes of piece j are written over -/
structure Pin (R : Nat → Prop) (w wr : World) (A : Option Addr) (n cap : Nat) (ps ps' : List Pc) (v : Value) (qs : List Pc) (j : Nat) (f : Pc) (bs : List UInt8) : Prop where
  q : Pq R w wr A n cap ps ps' v qs (j + 1) (j + 1)
  cur : ps'[j]? = some f
  by_ : OwnA wr 5 1 encB (.slice f.A f.n f.cap) bs
  blen : bs.length = f.bs.length
theorem Pq.enter {R : Nat → Prop} {w wr : World} {A : Option Addr} {n cap : Nat} {ps ps' : List Pc} {v : Value} {qs : List Pc} {j : Nat} {f : Pc} (h : Pq R w wr A n cap ps ps' v qs (j + 1) j) (hf : ps[j]? = some f) : Pin R w wr A n cap ps ps' v qs j f f.bs :=
  ⟨⟨h.own, h.core, h.be, h.len, h.src, h.plen, fun i hi => h.rest i (by omega), fun i x hi hx => h.ok i x (by omega) hx⟩, (h.rest j (Nat.le_refl _)).trans hf, (h.ok j f (Nat.le_refl _) hf).1, rfl⟩
theorem Pin.step {R : Nat → Prop} {w wr : World} {A : Option Addr} {n cap : Nat} {ps ps' : List Pc} {v : Value} {qs : List Pc} {j : Nat} {f : Pc} {bs : List UInt8} {fb fo k : Nat} {x : UInt8} (h : Pin R w wr A n cap ps ps' v qs j f bs) (hA : f.A = some ⟨fb, fo, none⟩) (hk : k < bs.length) (hap : Apart ps) (hf : ps[j]? = some f) (hR : R fb) (hlt : fb < w.heap.size) :
    Pin R w (wr.setCell ⟨fb, fo + k, none⟩ (.int .u8 (x.toNat : Int))) A n cap ps ps' v qs j f (bs.set k x) := by
  have hb := h.by_
  have hst := OwnA.store (k := k) (j := 0) (x := bs[k]) (x' := x) (u := .int .u8 (x.toNat : Int)) encB_len (hA ▸ hb) (List.getElem?_eq_getElem hk) (by omega) rfl
  simp only [Nat.mul_one, Nat.add_zero] at hst
  have hch : Chg (fun i => i = fb) wr (wr.setCell ⟨fb, fo + k, none⟩ (.int .u8 (x.toNat : Int))) := (Chg.refl (fun i => i = fb) wr).setCell (p := ⟨fb, _, none⟩) (fun _ => rfl) _
  have hfb : (Value.slice f.A f.n f.cap).ownBlock = some fb := by rw [hA]; rfl
  refine ⟨⟨h.q.own.chg hch (fun i hi e => by have hi' : w.heap.size ≤ i := hi; omega), h.q.core, h.q.be.setCell (p := ⟨fb, _, none⟩) (fun _ => hR) _, h.q.len, h.q.src.chg hch (fun g hg e => by subst e; exact h.q.src.apartA hb (by decide) hg hfb), h.q.plen, h.q.rest, fun i y hi hy => ?_⟩, h.cur, hA ▸ hst, by rw [List.length_set]; exact h.blen⟩
  have o := h.q.ok i y hi hy
  exact o.chg hch (fun g hg e => by subst e; exact hap j i f y (by omega) hf hy g (by rw [hA]; rfl) hg)
theorem Pin.fin {R : Nat → Prop} {w wr : World} {b off n cap : Nat} {ps ps' : List Pc} {v : Value} {qs : List Pc} {j : Nat} {f : Pc} {bs : List UInt8} {q : Int} (h : Pin R w wr (some ⟨b, off, none⟩) n cap ps ps' v qs j f bs) (hR : R b) (hlt : b < w.heap.size) :
    Pq R w (wr.setCell ⟨b, off + j * 3, none⟩ (.int .i64 q)) (some ⟨b, off, none⟩) n cap ps (ps'.set j ⟨q, f.last, f.A, f.n, f.cap, f.bs⟩) v qs (j + 1) (j + 1) := by
  have hst := OwnA.store (k := j) (j := 0) (x := f) (x' := ⟨q, f.last, f.A, f.n, f.cap, f.bs⟩) (u := .int .i64 q) Pc.cells_len h.q.src h.cur (by omega) rfl
  simp only [Nat.add_zero] at hst
  obtain ⟨off', cap', cur, hv, hgg, _⟩ := h.q.src.row (g := b) rfl
  have hblk : Blk wr b 57 cur := hgg
  have hch : Chg (fun i => i = b) wr (wr.setCell ⟨b, off + j * 3, none⟩ (.int .i64 q)) := (Chg.refl (fun i => i = b) wr).setCell (p := ⟨b, _, none⟩) (fun _ => rfl) _
  refine ⟨h.q.own.chg hch (fun i hi e => by have hi' : w.heap.size ≤ i := hi; omega), h.q.core, h.q.be.setCell (p := ⟨b, _, none⟩) (fun _ => hR) _, h.q.len, hst, by rw [List.length_set]; exact h.q.plen, fun i hi => ?_, fun i y hi hy => ?_⟩
  · rw [List.getElem?_set_ne (by omega)]; exact h.q.rest i hi
  · exact (h.q.ok i y hi hy).set_ hblk (by decide) _ _
/-- What pieces hands back: pieces in memory that it made, which are as those; what was told has been written over. -/
def RetPP (R : Nat → Prop) (w : World) (cs : List (Int × Bool × List UInt8)) (r : Ending) (w' : World) : Prop :=
  ∃ A n cap qs, r = .returned (.slice A n cap) ∧ PcOwn (fun k => w.heap.size ≤ k) w' 101 (.slice A n cap) qs ∧ qs.map Pc.core = cs ∧ Chg R w w' ∧ Hid (n = qs.length)
theorem xor_fin : ∀ n : Fin 256, bits BinOp.xor IntKind.u8 (n.val : Int) 255 = ((255 - n.val : Nat) : Int) := by decide +kernel
theorem xor_byte (x : UInt8) : bits BinOp.xor IntKind.u8 (x.toNat : Int) 255 = ((UInt8.ofNat (255 - x.toNat)).toNat : Int) := by
  have h := xor_fin ⟨x.toNat, x.toNat_lt⟩
  rw [h, UInt8.toNat_ofNat']
  congr 1
  have := x.toNat_lt
  simp only
  omega
set_option maxHeartbeats 8000000 in
set_option maxRecDepth 100000 in
theorem pieces_any (ps : List Pc) (A : Option Addr) (n cap : Nat) (R : Nat → Prop) (w : World) (h : PcOwn R w 57 (.slice A n cap) ps) (hap : Apart ps) (hm : n ≤ 100000) (hn : Hid (n = ps.length)) :
    Calls Try.prog 21 #[.slice A n cap] w (RetPP R w (ps.map Pc.core)) := by
  obtain ⟨i0, hi, hz, hz1, hz2⟩ := info_parts p27Info
  have HS := Lib.hid (And.intro h hap)
  have H0 := Lib.hid (show Pq R w w A n cap ps ps (.slice none 0 0) [] 0 0 from ⟨⟨OwnA.nil_ _ _ _ _, fun k hk => (by cases hk), fun p hp => (by cases hp), fun p hp => (by cases hp)⟩, rfl, Chg.refl _ _, rfl, h.own, rfl, fun _ _ => rfl, fun i x _ hx => h.ok x (List.mem_of_getElem? hx)⟩)
  clear h hap
  go_enter Try.func21, Try.ntmps21
  go_wp2
  go_loopg [3, 4] n (fun gk v3 v4 wr => ∃ (j : Nat) (A2 : Option Addr) (n2 c2 : Nat) (qs ps' : List Pc), v3 = .slice A2 n2 c2 ∧ v4 = .int .i64 (j : Int) ∧ n ≤ j + gk ∧ j ≤ n ∧ Hid (Pq R w wr A n cap ps ps' (.slice A2 n2 c2) qs j j))
  case atStart => exact ⟨0, none, 0, 0, [], ps, rfl, rfl, by omega, by omega, H0.out⟩
  case round =>
    obtain ⟨j, A2, n2, c2, qs, ps', rfl, rfl, hgk, hj, hC⟩ := hrel
    by_cases hlt : j < n
    · have hj1 : j < ps.length := by rw [← hn.out]; exact hlt
      have hx := List.getElem?_eq_getElem hj1
      have hx' := (hC.out.rest j (Nat.le_refl _)).trans hx
      obtain ⟨vb, vo, rfl, hvb', y0, y1, y2⟩ := pc_at (hC.out.src.sl Pc.cells_len) hx'
      have hvb : vb < w.heap.size := HS.out.1.own.lt rfl
      have hvR := Lib.hid (HS.out.1.blk vb rfl)
      have hRd := Lib.hid ((hC.out.ok j _ (Nat.le_refl _) hx).rd)
      have hX : Hid ((ps.map Pc.core)[j]? = some (ps[j]).core) := by rw [Hid, List.getElem?_map, hx]; rfl
      have hFP := Lib.hid (And.intro hx (HS.out.1.fp _ (List.mem_of_getElem? hx)))
      have hOk := Lib.hid (HS.out.1.ok _ (List.mem_of_getElem? hx))
      generalize ps[j] = f at *
      have b1 : (0 : Int) ≤ (j : Int) := Int.natCast_nonneg _
      have b2 : (j : Int) < (n : Int) := by omega
      clear hx hx' hvb'
      go_upto_region 5 with fail
      have hwr := hC.out.be.size
      have hS0 : Below w.heap.size wr wr.drew := (Below.refl _ _).drew
      refine wp_region_held_drew (S := fun w' => Below w.heap.size wr w') (by kernel_rfl) hS0 (fun hHeld => ?_)
      try simp only [Act.put, List.setIfInBounds_toArray, List.set_cons_zero, List.set_cons_succ]
      (refine wpAnyH_take (i := 0) (oi := { dst := some 12, op := _, type := _, pos := _, after := _, guard := _ }) (v := ?_) rfl (by kernel_rfl) (by kernel_rfl) (by kernel_rfl) (fun _ _ _ h => h) (Or.inl ⟨by kernel_rfl, (by intro W' hS'; obtain ⟨hq1, hq2⟩ := bcellS hS'; go_simp; try with_reducible rfl)⟩) (by assumption) ?_; (try simp only [Act.put, List.setIfInBounds_toArray, List.set_cons_zero, List.set_cons_succ]))
      (refine wpAnyH_take (i := 1) (oi := { dst := some 13, op := _, type := _, pos := _, after := _, guard := _ }) (v := ?_) rfl (by kernel_rfl) (by kernel_rfl) (by kernel_rfl) (fun _ _ _ h => h) (Or.inl ⟨by kernel_rfl, (by intro W' hS'; obtain ⟨hq1, hq2⟩ := bcellS hS'; go_simp; try with_reducible rfl)⟩) (by assumption) ?_; (try simp only [Act.put, List.setIfInBounds_toArray, List.set_cons_zero, List.set_cons_succ]))
      (refine wpAnyH_take (i := 2) (oi := { dst := some 14, op := _, type := _, pos := _, after := _, guard := _ }) (v := ?_) rfl (by kernel_rfl) (by kernel_rfl) (by kernel_rfl) (fun _ _ _ h => h) (Or.inl ⟨by kernel_rfl, (by intro W' hS'; obtain ⟨hq1, hq2⟩ := bcellS hS'; go_simp; try with_reducible rfl)⟩) (by assumption) ?_; (try simp only [Act.put, List.setIfInBounds_toArray, List.set_cons_zero, List.set_cons_succ]))
      (refine wpAnyH_take (i := 3) (oi := { dst := some 15, op := _, type := _, pos := _, after := _, guard := _ }) (v := ?_) rfl (by kernel_rfl) (by kernel_rfl) (by kernel_rfl) (fun _ _ _ h => h) (Or.inl ⟨by kernel_rfl, (by intro W' hS'; obtain ⟨hq1, hq2⟩ := bcellS hS'; go_simp; try with_reducible rfl)⟩) (by assumption) ?_; (try simp only [Act.put, List.setIfInBounds_toArray, List.set_cons_zero, List.set_cons_succ]))
      (refine wpAnyH_take (i := 4) (oi := { dst := some 16, op := _, type := _, pos := _, after := _, guard := _ }) (v := ?_) rfl (by kernel_rfl) (by kernel_rfl) (by kernel_rfl) (fun _ _ _ h => h) (Or.inl ⟨by kernel_rfl, (by intro W' hS'; obtain ⟨hq1, hq2⟩ := bcellS hS'; go_simp; try with_reducible rfl)⟩) (by assumption) ?_; (try simp only [Act.put, List.setIfInBounds_toArray, List.set_cons_zero, List.set_cons_succ]))
      (refine wpAnyH_take (i := 5) (oi := { dst := some 17, op := _, type := _, pos := _, after := _, guard := _ }) (v := ?_) rfl (by kernel_rfl) (by kernel_rfl) (by kernel_rfl) (fun _ _ _ h => h) (Or.inl ⟨by kernel_rfl, (by intro W' hS'; obtain ⟨hq1, hq2⟩ := bcellS hS'; go_simp; try with_reducible rfl)⟩) (by assumption) ?_; (try simp only [Act.put, List.setIfInBounds_toArray, List.set_cons_zero, List.set_cons_succ]))
      (refine wpAnyH_take (i := 6) (oi := { dst := some 18, op := _, type := _, pos := _, after := _, guard := _ }) (v := ?_) rfl (by kernel_rfl) (by kernel_rfl) (by kernel_rfl) (fun _ _ _ h => h) (Or.inl ⟨by kernel_rfl, (by intro W' hS'; obtain ⟨hq1, hq2⟩ := bcellS hS'; go_simp; try with_reducible rfl)⟩) (by assumption) ?_; (try simp only [Act.put, List.setIfInBounds_toArray, List.set_cons_zero, List.set_cons_succ]))
      (refine wpAnyH_take (i := 7) (oi := { dst := some 19, op := _, type := _, pos := _, after := _, guard := _ }) (v := ?_) rfl (by kernel_rfl) (by kernel_rfl) (by kernel_rfl) (fun _ _ _ h => h) (Or.inl ⟨by kernel_rfl, (by intro W' hS'; obtain ⟨hq1, hq2⟩ := bcellS hS'; go_simp; try with_reducible rfl)⟩) (by assumption) ?_; (try simp only [Act.put, List.setIfInBounds_toArray, List.set_cons_zero, List.set_cons_succ]))
      (refine wpAnyH_take (i := 8) (oi := { dst := some 20, op := _, type := _, pos := _, after := _, guard := _ }) (v := ?_) rfl (by kernel_rfl) (by kernel_rfl) (by kernel_rfl) (fun _ _ _ h => h) (Or.inl ⟨by kernel_rfl, (by intro W' hS'; obtain ⟨hq1, hq2⟩ := bcellS hS'; go_simp; try with_reducible rfl)⟩) (by assumption) ?_; (try simp only [Act.put, List.setIfInBounds_toArray, List.set_cons_zero, List.set_cons_succ]))
      (refine wpAnyH_take (i := 9) (oi := { dst := some 21, op := _, type := _, pos := _, after := _, guard := _ }) (v := ?_) rfl (by kernel_rfl) (by kernel_rfl) (by kernel_rfl) (fun _ _ _ h => h) (Or.inl ⟨by kernel_rfl, (by intro W' hS'; obtain ⟨hq1, hq2⟩ := bcellS hS'; go_simp; try with_reducible rfl)⟩) (by assumption) ?_; (try simp only [Act.put, List.setIfInBounds_toArray, List.set_cons_zero, List.set_cons_succ]))
      (refine wpAnyH_take (i := 10) (oi := { dst := some 22, op := _, type := _, pos := _, after := _, guard := _ }) (v := ?_) rfl (by kernel_rfl) (by kernel_rfl) (by kernel_rfl) (fun _ _ _ h => h) (Or.inl ⟨by kernel_rfl, (by intro W' hS'; obtain ⟨hq1, hq2⟩ := bcellS hS'; go_simp; try with_reducible rfl)⟩) (by assumption) ?_; (try simp only [Act.put, List.setIfInBounds_toArray, List.set_cons_zero, List.set_cons_succ]))
      (refine wpAnyH_take (i := 11) (oi := { dst := some 23, op := _, type := _, pos := _, after := _, guard := _ }) (v := ?_) rfl (by kernel_rfl) (by kernel_rfl) (by kernel_rfl) (fun _ _ _ h => h) (Or.inl ⟨by kernel_rfl, (by intro W' hS'; obtain ⟨hq1, hq2⟩ := bcellS hS'; go_simp; try with_reducible rfl)⟩) (by assumption) ?_; (try simp only [Act.put, List.setIfInBounds_toArray, List.set_cons_zero, List.set_cons_succ]))
      (refine wpAnyH_take (i := 12) (oi := { dst := some 24, op := _, type := _, pos := _, after := _, guard := _ }) (v := ?_) rfl (by kernel_rfl) (by kernel_rfl) (by kernel_rfl) (fun _ _ _ h => h) (Or.inl ⟨by kernel_rfl, (by intro W' hS'; obtain ⟨hq1, hq2⟩ := bcellS hS'; go_simp; try with_reducible rfl)⟩) (by assumption) ?_; (try simp only [Act.put, List.setIfInBounds_toArray, List.set_cons_zero, List.set_cons_succ]))
      (refine wpAnyH_take (i := 13) (oi := { dst := some 25, op := _, type := _, pos := _, after := _, guard := _ }) (v := ?_) rfl (by kernel_rfl) (by kernel_rfl) (by kernel_rfl) (fun _ _ _ h => h) (Or.inl ⟨by kernel_rfl, (by intro W' hS'; obtain ⟨hq1, hq2⟩ := bcellS hS'; go_simp; try with_reducible rfl)⟩) (by assumption) ?_; (try simp only [Act.put, List.setIfInBounds_toArray, List.set_cons_zero, List.set_cons_succ]))
      (refine wpAnyH_take (i := 14) (oi := { dst := some 26, op := _, type := _, pos := _, after := _, guard := _ }) (v := ?_) rfl (by kernel_rfl) (by kernel_rfl) (by kernel_rfl) (fun _ _ _ h => h) (Or.inl ⟨by kernel_rfl, (by intro W' hS'; obtain ⟨hq1, hq2⟩ := bcellS hS'; go_simp; try with_reducible rfl)⟩) (by assumption) ?_; (try simp only [Act.put, List.setIfInBounds_toArray, List.set_cons_zero, List.set_cons_succ]))
      (refine wpAnyH_take (i := 15) (oi := { dst := some 27, op := _, type := _, pos := _, after := _, guard := _ }) (v := ?_) rfl (by kernel_rfl) (by kernel_rfl) (by kernel_rfl) (fun _ _ _ h => h) (Or.inl ⟨by kernel_rfl, (by intro W' hS'; obtain ⟨hq1, hq2⟩ := bcellS hS'; go_simp; try with_reducible rfl)⟩) (by assumption) ?_; (try simp only [Act.put, List.setIfInBounds_toArray, List.set_cons_zero, List.set_cons_succ]))
      refine wpAnyH_ready (rs := [16]) (by kernel_rfl) (by simp) ?_
      refine AllReadyH.cons (o := { dst := some 28, op := _, type := _, pos := _, after := _, guard := _ }) rfl (fun K hK => ?_) AllReadyH.nil
      go_simp
      have hd : Below wr.heap.size wr wr.drew := (Below.refl _ _).drew
      refine (Bytes.copy_any f.bs f.A f.n f.cap _ (hRd.out.sl.ext hd) hRd.out.le hRd.out.n).mono ?_; rintro e w6 ⟨v6, rfl, hown6, hb6⟩
      obtain ⟨A6, n6, c6, rfl, _, _, _, _⟩ := (OwnA.of_own hown6).form
      have hB6 : Below wr.heap.size wr w6 := ext_under hd (Nat.le_refl _) hb6
      have hf6 : ∀ k, (Value.slice A6 n6 c6).ownBlock = some k → wr.heap.size ≤ k := fun k hk => by have := (hown6.lt hk).1; have := hd.size; omega
      have HO6 := Lib.hid (And.intro (OwnA.of_own hown6) hf6)
      refine hK.out _ _ (hB6.mono hwr) (fun hHeld2 => ?_)
      clear hK K hb6 hown6 hf6
      try simp only [Act.put, List.setIfInBounds_toArray, List.set_cons_zero, List.set_cons_succ]
      (refine wpAnyH_take (i := 17) (oi := { dst := some 29, op := _, type := _, pos := _, after := _, guard := _ }) (v := ?_) rfl (by kernel_rfl) (by kernel_rfl) (by kernel_rfl) (fun _ _ _ h => h) (Or.inl ⟨by kernel_rfl, (by intro W' hS'; obtain ⟨hq1, hq2⟩ := bcellS hS'; go_simp; try with_reducible rfl)⟩) (by assumption) ?_; (try simp only [Act.put, List.setIfInBounds_toArray, List.set_cons_zero, List.set_cons_succ]))
      refine wpAnyH_ready (rs := [18]) (by kernel_rfl) (by simp) ?_
      refine AllReadyH.cons (o := { dst := some 30, op := _, type := _, pos := _, after := _, guard := _ }) rfl (fun K hK => ?_) AllReadyH.nil
      go_simp
      refine hK.out _ _ ((hB6.alloc hB6.size _).mono hwr) (fun hHeld3 => ?_)
      clear hK K
      try simp only [Act.put, List.setIfInBounds_toArray, List.set_cons_zero, List.set_cons_succ]
      refine wpAnyH_ready (rs := [19]) (by kernel_rfl) (by simp) ?_
      refine AllReadyH.cons (o := { dst := some 31, op := _, type := _, pos := _, after := _, guard := _ }) rfl (fun K hK => ?_) AllReadyH.nil
      refine Eq.mpr (if_pos (by kernel_rfl)) ?_
      refine wp_append_a _ (.tmp 12) (.tmp 30) 38 rfl 101 i0 _ 3 40 Try.underlying38 hi hz hz1 hz2 rfl (by decide) Pc.cells_len Pc.cells_one (.slice A2 n2 c2) qs rfl ((hC.out.own.own.ext hB6).ext (below_s _ _)) _ (some ⟨w6.heap.size, 0, none⟩) [⟨f.seq, f.last, A6, n6, c6, f.bs⟩] 1 1 rfl rfl (pc27_lit (p := ⟨f.seq, f.last, A6, n6, c6, f.bs⟩)) ?_ ?_ ?_
      · have h := hC.out.len; simp only [List.length_singleton, maxLen]; omega
      · have h := hC.out.len; simp only [List.length_singleton]; omega
      intro v' w9 hown' hchg hat
      obtain ⟨A9, n9, c9, rfl, _, _, _, _⟩ := hown'.form
      have HN := Lib.hid (hC.out.next hX.out hRd.out.le hB6 HO6.out.1 HO6.out.2 hown' hchg hat)
      have hS9 : Below w.heap.size wr w9 := ((hB6.alloc hB6.size _).mono hwr).trans (hchg.below (by have := hB6.size; simp; omega) fun i hi hs => by have h4 : w.heap.size ≤ i := hC.out.own.blk i hs; omega)
      refine hK.out _ _ hS9 (fun hHeld4 => ?_)
      clear hK K
      try simp only [Act.put, List.setIfInBounds_toArray, List.set_cons_zero, List.set_cons_succ]
      (refine wpAnyH_take (i := 20) (oi := { dst := some 3, op := _, type := _, pos := _, after := _, guard := _ }) (v := ?_) rfl (by kernel_rfl) (by kernel_rfl) (by kernel_rfl) (fun _ _ _ h => h) (Or.inl ⟨by kernel_rfl, (by intro W' hS'; obtain ⟨hq1, hq2⟩ := bcellS hS'; go_simp; try with_reducible rfl)⟩) (by assumption) ?_; (try simp only [Act.put, List.setIfInBounds_toArray, List.set_cons_zero, List.set_cons_succ]))
      refine wpAnyH_done (by kernel_rfl) ?_ _
      clear hown' hchg hat hHeld4 hHeld3 hHeld2 hHeld hS0 hB6 HO6 hS9
      have HI := Lib.hid (HN.out.enter hFP.out.1)
      clear HN y0 y1 y2
      generalize qs ++ [⟨f.seq, f.last, A6, n6, c6, f.bs⟩] = qs2 at HI
      have hfn : f.n ≤ 140737488355328 := by have h1 := hOk.out.1.len; have h2 := hOk.out.2; omega
      generalize gk = g0 at *
      generalize wr = W0 at *
      go_wp2
      go_loopg [5] f.n (fun gk v5 wr => ∃ (k : Nat) (bs : List UInt8), v5 = .int .i64 (k : Int) ∧ f.n ≤ k + gk ∧ k ≤ f.n ∧ Hid (Pin R w wr (some ⟨vb, vo, none⟩) n cap ps ps' (.slice A9 n9 c9) qs2 j f bs))
      case atStart => exact ⟨0, f.bs, rfl, by omega, by omega, HI.out⟩
      case round =>
        obtain ⟨k, bs, rfl, hgk2, hk, hP⟩ := hrel
        obtain ⟨vb', vo', hvv, hvb', y0, y1, y2⟩ := pc_at (hP.out.q.src.sl Pc.cells_len) hP.out.cur
        injection hvv with hvv
        injection hvv with hv1 hv2 _
        subst hv1; subst hv2
        have hbn := hP.out.by_.len
        have d1 : (0 : Int) ≤ (k : Int) := Int.natCast_nonneg _
        by_cases hkn : k < f.n
        · have hkl : k < bs.length := by rw [← hbn]; exact hkn
          obtain ⟨fb, fo, hfA, hfb, x0⟩ := BySl.at_ (hP.out.by_.sl encB_len) (List.getElem?_eq_getElem hkl)
          rw [hfA] at y2
          obtain ⟨off', cap', cur, hv, hgg, _⟩ := hP.out.by_.row (g := fb) (by rw [hfA]; rfl)
          have fz : wr.frozen? ⟨fb, fo + k, none⟩ = false := frozen_of_row wr fb _ cur _ hgg
          have HA := Lib.hid (And.intro hfA hkl)
          have d2 : (k : Int) < (f.n : Int) := by omega
          generalize bs[k] = x at *
          clear hfA hkl hv hgg hbn y0 y1 hvb' hfb
          go_wp2
          go_roundg (gk - 1)
          case measure => omega
          case rel => exact ⟨k + 1, _, by go_num, by omega, by omega, by rw [xor_byte x]; exact hP.out.step HA.out.1 HA.out.2 HS.out.2 hFP.out.1 (hFP.out.2 fb (by rw [HA.out.1]; rfl)) (hOk.out.1.lt (by rw [HA.out.1]; rfl))⟩
        · have hfin := Lib.hid (hP.out.fin (q := -1) (HS.out.1.blk vb rfl) hvb)
          obtain ⟨off', cap', cur, hv, hgg, _⟩ := hP.out.q.src.row (g := vb) rfl
          have fz : wr.frozen? ⟨vb, vo + j * 3, none⟩ = false := frozen_of_row wr vb _ cur _ hgg
          have d2 : ¬ (k : Int) < (f.n : Int) := by omega
          have d5 : decide (k < f.n) = false := decide_eq_false hkn
          clear hv hgg hbn hvb'
          go_wp2
          go_roundg (g0 - 1)
          case measure => omega
          case rel => exact ⟨j + 1, A9, n9, c9, qs2, _, rfl, by go_num, by omega, by omega, hfin.out⟩
    · have hall : j = ps.length := by rw [← hn.out]; omega
      have b2 : ¬ (j : Int) < (n : Int) := by omega
      have HR := Lib.hid hC.out.own
      have HQ := Lib.hid (And.intro hC.out.core (And.intro hC.out.be hC.out.own.own.len))
      clear hC
      go_wp2
      go_ret
      refine ⟨_, _, _, qs, rfl, HR.out, ?_, HQ.out.2.1, HQ.out.2.2⟩
      rw [HQ.out.1, List.take_of_length_le (by simp; omega)]
end Go.Proofs.Ytiljpbncfofnhaa.Send
