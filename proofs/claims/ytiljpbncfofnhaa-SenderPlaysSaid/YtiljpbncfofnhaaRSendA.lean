/- sender: the document's pieces: Copy. -/
import Derived.Test.YtiljpbncfofnhaaSendH
import Derived.Test.YtiljpbncfofnhaaBytes
import Derived.Outline
import Derived.BigQuiet
import Derived.Deep.QuietTactic
import Derived.Deep.RegionWith
import Derived.Deep.RegionHeld3
import Derived.Deep.DrawnRows
import Derived.Deep.LoopGhost
import Derived.Deep.DeepCutAuto
import Derived.Laws.EntriesVeiled
import Derived.Deep.RegionHeld
namespace Go.Proofs.Ytiljpbncfofnhaa.Send
open Go.RowKit Go.ChangeShapes Go.WideShapes Go.ChangeAt
set_option linter.unusedVariables false
set_option linter.unusedSimpArgs false
attribute [local go_sem ↓] Go.wp_at_zero Go.wp_at_succ

theorem p27Info : (Try.prog.info? 101).map (fun i => (i.zero, i.size, i.bytes)) = some (some (.agg #[.int .i64 0, .bool false, .slice none 0 0]), 3, 40) := by kernel_rfl
theorem below_s (w : World) (o : Obj) : Below w.heap.size w (w.alloc o) := (Below.refl _ _).alloc (Nat.le_refl _) o
theorem bcellS {B : Nat} {W w1 : World} (hb : Below B W w1) : (∀ b o, b < B → w1.cell? ⟨b, o, none⟩ = W.cell? ⟨b, o, none⟩) ∧ (∀ b o, b < B → w1.frozen? ⟨b, o, none⟩ = W.frozen? ⟨b, o, none⟩) :=
  ⟨fun b o h => hb.cell (p := ⟨b, o, none⟩) h, fun b o h => hb.frozen (p := ⟨b, o, none⟩) h⟩
theorem pc_at {w : World} {B : Nat} {A : Option Addr} {l : List Pc} (h : Sl w B 3 Pc.cells A l) {k : Nat} {f : Pc} (hx : l[k]? = some f) :
    ∃ b off, A = some ⟨b, off, none⟩ ∧ b < B ∧ w.cell? ⟨b, off + k * 3, none⟩ = some (.int .i64 f.seq) ∧ w.cell? ⟨b, off + k * 3 + 1, none⟩ = some (.bool f.last) ∧ w.cell? ⟨b, off + k * 3 + 2, none⟩ = some (.slice f.A f.n f.cap) := by
  obtain ⟨b, off, e, hb, hc⟩ := Sl.at_ h hx
  exact ⟨b, off, e, hb, hc 0 _ rfl, hc 1 _ rfl, hc 2 _ rfl⟩
/-- one piece more, behind an append -/
theorem PcOwn.app {F : Nat → Prop} {w3 w4 : World} {t : TypeId} {v v' : Value} {qs : List Pc} {p : Pc} (h : PcOwn F w3 t v qs) (hp : p.Ok w3) (hfp : ∀ k, blockOf p.A = some k → F k) (hown : OwnA w4 t 3 Pc.cells v' (qs ++ [p])) (hc : Chg (fun k => v.ownBlock = some k) w3 w4)
    (hat : v'.ownBlock = v.ownBlock ∨ v'.ownBlock = some w3.heap.size) (hF : F w3.heap.size) (ht : 5 ≠ t) : PcOwn F w4 t v' (qs ++ [p]) := by
  have key : ∀ q : Pc, q.Ok w3 → q.Ok w4 := fun q o => ⟨o.1.chg hc (fun i hi => o.1.apartA h.own ht hi), o.2⟩
  refine ⟨hown, fun k hk => ?_, fun q hq => ?_, fun q hq => ?_⟩
  · rcases hat with e | e
    · exact h.blk k (e ▸ hk)
    · rw [e] at hk; injection hk with hk; exact hk ▸ hF
  · rcases List.mem_append.1 hq with hq | hq
    · exact key q (h.ok q hq)
    · rw [List.mem_singleton.1 hq]; exact key p hp
  · rcases List.mem_append.1 hq with hq | hq
    · exact h.fp q hq
    · rw [List.mem_singleton.1 hq]; exact hfp
/-- how far pieces have been copied: j of them -/
structure Cp27 (w wr : World) (cs : List (Int × Bool × List UInt8)) (v : Value) (qs : List Pc) (j : Nat) : Prop where
  own : PcOwn (fun k => w.heap.size ≤ k) wr 101 v qs
  core : qs.map Pc.core = cs.take j
  be : Below w.heap.size w wr
  len : qs.length = j
theorem blk_own {A : Option Addr} {n c k : Nat} (h : blockOf A = some k) : (Value.slice A n c).ownBlock = some k := by cases A <;> simp_all [blockOf, Value.ownBlock]
theorem Cp27.next {w wr w6 w9 : World} {cs : List (Int × Bool × List UInt8)} {v v' : Value} {qs : List Pc} {j : Nat} {f : Pc} {A6 : Option Addr} {n6 c6 : Nat} {o : Obj} (h : Cp27 w wr cs v qs j) (hx : cs[j]? = some f.core) (hle : f.bs.length ≤ 140737488355328) (hb6 : Below wr.heap.size wr w6)
    (h6 : OwnA w6 5 1 encB (.slice A6 n6 c6) f.bs) (hf6 : ∀ k, (Value.slice A6 n6 c6).ownBlock = some k → wr.heap.size ≤ k) (hown : OwnA w9 101 3 Pc.cells v' (qs ++ [⟨f.seq, f.last, A6, n6, c6, f.bs⟩])) (hc : Chg (fun k => v.ownBlock = some k) (w6.alloc o) w9)
    (hat : v'.ownBlock = v.ownBlock ∨ v'.ownBlock = some (w6.alloc o).heap.size) : Cp27 w w9 cs v' (qs ++ [⟨f.seq, f.last, A6, n6, c6, f.bs⟩]) (j + 1) := by
  have hbw := h.be.size
  have hb6s := hb6.size
  have h3 := (h.own.ext hb6).ext (below_s w6 o)
  refine ⟨h3.app ⟨h6.ext (below_s w6 o), hle⟩ (fun k hk => Nat.le_trans hbw (hf6 k (blk_own hk))) hown hc hat (by simp; omega) (by decide), ?_, ?_, by simp [h.len]⟩
  · rw [List.map_append, h.core, List.take_add_one, hx]; rfl
  · have hb := (ext_under h.be (Nat.le_refl _) hb6).alloc (ext_under h.be (Nat.le_refl _) hb6).size o
    exact hb.trans (hc.below hb.size fun i hi hs => by have h4 : w.heap.size ≤ i := h.own.blk i hs; omega)
theorem pc27_lit {w2 : World} {p : Pc} : Sl (w2.alloc (.cells #[.int .i64 p.seq, .bool p.last, .slice p.A p.n p.cap] 101)) (w2.alloc (.cells #[.int .i64 p.seq, .bool p.last, .slice p.A p.n p.cap] 101)).heap.size 3 Pc.cells (some ⟨w2.heap.size, 0, none⟩) [p] :=
  fun _ => ⟨w2.heap.size, 0, rfl, by simp, fun k x hx j v hv => by
    rcases k with _ | k
    · simp at hx; subst hx
      rw [show (⟨w2.heap.size, 0 + 0 * 3 + j, none⟩ : Addr) = ⟨w2.heap.size, j, none⟩ from by simp, (Blk.new w2 _ _).cell j]
      simpa [Pc.cells] using hv
    · simp at hx⟩
/-- The call hands back pieces in memory that it made, which are as those. -/
def RetP27 (w : World) (cs : List (Int × Bool × List UInt8)) (r : Ending) (w' : World) : Prop :=
  ∃ v ps, r = .returned v ∧ PcOwn (fun k => w.heap.size ≤ k) w' 101 v ps ∧ ps.map Pc.core = cs ∧ Below w.heap.size w w'
set_option maxHeartbeats 4000000 in
set_option maxRecDepth 100000 in
theorem copy27_any (ps : List Pc) (A : Option Addr) (n cap : Nat) (w : World) (hl : Sl w w.heap.size 3 Pc.cells A ps) (hr : ∀ p ∈ ps, p.Rd w) (hm : n ≤ 100000) (hn : Hid (n = ps.length)) :
    Calls Try.prog 67 #[.slice A n cap] w (RetP27 w (ps.map Pc.core)) := by
  obtain ⟨i0, hi, hz, hz1, hz2⟩ := info_parts p27Info
  have HL := Lib.hid (And.intro hl hr)
  clear hl hr
  go_enter Try.func67, Try.ntmps67
  go_wp2
  go_loopg [3, 4] n (fun gk v3 v4 wr => ∃ (j : Nat) (A2 : Option Addr) (n2 c2 : Nat) (qs : List Pc), v3 = .slice A2 n2 c2 ∧ v4 = .int .i64 (j : Int) ∧ n ≤ j + gk ∧ j ≤ n ∧ Hid (Cp27 w wr (ps.map Pc.core) (.slice A2 n2 c2) qs j))
  case atStart => exact ⟨0, none, 0, 0, [], rfl, rfl, by omega, by omega, ⟨⟨OwnA.nil_ _ _ _ _, fun k hk => (by cases hk), fun p hp => (by cases hp), fun p hp => (by cases hp)⟩, rfl, Below.refl _ _, rfl⟩⟩
  case round =>
    obtain ⟨j, A2, n2, c2, qs, rfl, rfl, hgk, hj, hC⟩ := hrel
    by_cases hlt : j < n
    · have hj1 : j < ps.length := by rw [← hn.out]; exact hlt
      have hx := List.getElem?_eq_getElem hj1
      obtain ⟨vb, vo, rfl, hvb, z0, z1, z2⟩ := pc_at HL.out.1 hx
      have y0 := (hC.out.be.cell (p := ⟨vb, _, none⟩) hvb).trans z0
      have y1 := (hC.out.be.cell (p := ⟨vb, _, none⟩) hvb).trans z1
      have y2 := (hC.out.be.cell (p := ⟨vb, _, none⟩) hvb).trans z2
      clear z0 z1 z2
      have hRd := Lib.hid ((HL.out.2 _ (List.getElem_mem hj1)).ext hC.out.be)
      have hX : Hid ((ps.map Pc.core)[j]? = some (ps[j]).core) := by rw [Hid, List.getElem?_map, hx]; rfl
      generalize ps[j] = f at *
      have b1 : (0 : Int) ≤ (j : Int) := Int.natCast_nonneg _
      have b2 : (j : Int) < (n : Int) := by omega
      clear hx
      go_upto_region 5 with fail
      have hwr := hC.out.be.size
      have hS0 : Below w.heap.size wr wr.drew := (Below.refl _ _).drew
      refine wp_region_held_drew (S := fun w' => Below w.heap.size wr w') (by kernel_rfl) hS0 (fun hHeld => ?_)
      try simp only [Act.put, List.setIfInBounds_toArray, List.set_cons_zero, List.set_cons_succ]
      (refine wpAnyH_take (i := 0) (oi := { dst := some 11, op := _, type := _, pos := _, after := _, guard := _ }) (v := ?_) rfl (by kernel_rfl) (by kernel_rfl) (by kernel_rfl) (fun _ _ _ h => h) (Or.inl ⟨by kernel_rfl, (by intro W' hS'; obtain ⟨hq1, hq2⟩ := bcellS hS'; go_simp; try with_reducible rfl)⟩) (by assumption) ?_; (try simp only [Act.put, List.setIfInBounds_toArray, List.set_cons_zero, List.set_cons_succ]))
      (refine wpAnyH_take (i := 1) (oi := { dst := some 12, op := _, type := _, pos := _, after := _, guard := _ }) (v := ?_) rfl (by kernel_rfl) (by kernel_rfl) (by kernel_rfl) (fun _ _ _ h => h) (Or.inl ⟨by kernel_rfl, (by intro W' hS'; obtain ⟨hq1, hq2⟩ := bcellS hS'; go_simp; try with_reducible rfl)⟩) (by assumption) ?_; (try simp only [Act.put, List.setIfInBounds_toArray, List.set_cons_zero, List.set_cons_succ]))
      (refine wpAnyH_take (i := 2) (oi := { dst := some 13, op := _, type := _, pos := _, after := _, guard := _ }) (v := ?_) rfl (by kernel_rfl) (by kernel_rfl) (by kernel_rfl) (fun _ _ _ h => h) (Or.inl ⟨by kernel_rfl, (by intro W' hS'; obtain ⟨hq1, hq2⟩ := bcellS hS'; go_simp; try with_reducible rfl)⟩) (by assumption) ?_; (try simp only [Act.put, List.setIfInBounds_toArray, List.set_cons_zero, List.set_cons_succ]))
      (refine wpAnyH_take (i := 3) (oi := { dst := some 14, op := _, type := _, pos := _, after := _, guard := _ }) (v := ?_) rfl (by kernel_rfl) (by kernel_rfl) (by kernel_rfl) (fun _ _ _ h => h) (Or.inl ⟨by kernel_rfl, (by intro W' hS'; obtain ⟨hq1, hq2⟩ := bcellS hS'; go_simp; try with_reducible rfl)⟩) (by assumption) ?_; (try simp only [Act.put, List.setIfInBounds_toArray, List.set_cons_zero, List.set_cons_succ]))
      (refine wpAnyH_take (i := 4) (oi := { dst := some 15, op := _, type := _, pos := _, after := _, guard := _ }) (v := ?_) rfl (by kernel_rfl) (by kernel_rfl) (by kernel_rfl) (fun _ _ _ h => h) (Or.inl ⟨by kernel_rfl, (by intro W' hS'; obtain ⟨hq1, hq2⟩ := bcellS hS'; go_simp; try with_reducible rfl)⟩) (by assumption) ?_; (try simp only [Act.put, List.setIfInBounds_toArray, List.set_cons_zero, List.set_cons_succ]))
      (refine wpAnyH_take (i := 5) (oi := { dst := some 16, op := _, type := _, pos := _, after := _, guard := _ }) (v := ?_) rfl (by kernel_rfl) (by kernel_rfl) (by kernel_rfl) (fun _ _ _ h => h) (Or.inl ⟨by kernel_rfl, (by intro W' hS'; obtain ⟨hq1, hq2⟩ := bcellS hS'; go_simp; try with_reducible rfl)⟩) (by assumption) ?_; (try simp only [Act.put, List.setIfInBounds_toArray, List.set_cons_zero, List.set_cons_succ]))
      (refine wpAnyH_take (i := 6) (oi := { dst := some 17, op := _, type := _, pos := _, after := _, guard := _ }) (v := ?_) rfl (by kernel_rfl) (by kernel_rfl) (by kernel_rfl) (fun _ _ _ h => h) (Or.inl ⟨by kernel_rfl, (by intro W' hS'; obtain ⟨hq1, hq2⟩ := bcellS hS'; go_simp; try with_reducible rfl)⟩) (by assumption) ?_; (try simp only [Act.put, List.setIfInBounds_toArray, List.set_cons_zero, List.set_cons_succ]))
      (refine wpAnyH_take (i := 7) (oi := { dst := some 18, op := _, type := _, pos := _, after := _, guard := _ }) (v := ?_) rfl (by kernel_rfl) (by kernel_rfl) (by kernel_rfl) (fun _ _ _ h => h) (Or.inl ⟨by kernel_rfl, (by intro W' hS'; obtain ⟨hq1, hq2⟩ := bcellS hS'; go_simp; try with_reducible rfl)⟩) (by assumption) ?_; (try simp only [Act.put, List.setIfInBounds_toArray, List.set_cons_zero, List.set_cons_succ]))
      (refine wpAnyH_take (i := 8) (oi := { dst := some 19, op := _, type := _, pos := _, after := _, guard := _ }) (v := ?_) rfl (by kernel_rfl) (by kernel_rfl) (by kernel_rfl) (fun _ _ _ h => h) (Or.inl ⟨by kernel_rfl, (by intro W' hS'; obtain ⟨hq1, hq2⟩ := bcellS hS'; go_simp; try with_reducible rfl)⟩) (by assumption) ?_; (try simp only [Act.put, List.setIfInBounds_toArray, List.set_cons_zero, List.set_cons_succ]))
      (refine wpAnyH_take (i := 9) (oi := { dst := some 20, op := _, type := _, pos := _, after := _, guard := _ }) (v := ?_) rfl (by kernel_rfl) (by kernel_rfl) (by kernel_rfl) (fun _ _ _ h => h) (Or.inl ⟨by kernel_rfl, (by intro W' hS'; obtain ⟨hq1, hq2⟩ := bcellS hS'; go_simp; try with_reducible rfl)⟩) (by assumption) ?_; (try simp only [Act.put, List.setIfInBounds_toArray, List.set_cons_zero, List.set_cons_succ]))
      (refine wpAnyH_take (i := 10) (oi := { dst := some 21, op := _, type := _, pos := _, after := _, guard := _ }) (v := ?_) rfl (by kernel_rfl) (by kernel_rfl) (by kernel_rfl) (fun _ _ _ h => h) (Or.inl ⟨by kernel_rfl, (by intro W' hS'; obtain ⟨hq1, hq2⟩ := bcellS hS'; go_simp; try with_reducible rfl)⟩) (by assumption) ?_; (try simp only [Act.put, List.setIfInBounds_toArray, List.set_cons_zero, List.set_cons_succ]))
      (refine wpAnyH_take (i := 11) (oi := { dst := some 22, op := _, type := _, pos := _, after := _, guard := _ }) (v := ?_) rfl (by kernel_rfl) (by kernel_rfl) (by kernel_rfl) (fun _ _ _ h => h) (Or.inl ⟨by kernel_rfl, (by intro W' hS'; obtain ⟨hq1, hq2⟩ := bcellS hS'; go_simp; try with_reducible rfl)⟩) (by assumption) ?_; (try simp only [Act.put, List.setIfInBounds_toArray, List.set_cons_zero, List.set_cons_succ]))
      (refine wpAnyH_take (i := 12) (oi := { dst := some 23, op := _, type := _, pos := _, after := _, guard := _ }) (v := ?_) rfl (by kernel_rfl) (by kernel_rfl) (by kernel_rfl) (fun _ _ _ h => h) (Or.inl ⟨by kernel_rfl, (by intro W' hS'; obtain ⟨hq1, hq2⟩ := bcellS hS'; go_simp; try with_reducible rfl)⟩) (by assumption) ?_; (try simp only [Act.put, List.setIfInBounds_toArray, List.set_cons_zero, List.set_cons_succ]))
      (refine wpAnyH_take (i := 13) (oi := { dst := some 24, op := _, type := _, pos := _, after := _, guard := _ }) (v := ?_) rfl (by kernel_rfl) (by kernel_rfl) (by kernel_rfl) (fun _ _ _ h => h) (Or.inl ⟨by kernel_rfl, (by intro W' hS'; obtain ⟨hq1, hq2⟩ := bcellS hS'; go_simp; try with_reducible rfl)⟩) (by assumption) ?_; (try simp only [Act.put, List.setIfInBounds_toArray, List.set_cons_zero, List.set_cons_succ]))
      (refine wpAnyH_take (i := 14) (oi := { dst := some 25, op := _, type := _, pos := _, after := _, guard := _ }) (v := ?_) rfl (by kernel_rfl) (by kernel_rfl) (by kernel_rfl) (fun _ _ _ h => h) (Or.inl ⟨by kernel_rfl, (by intro W' hS'; obtain ⟨hq1, hq2⟩ := bcellS hS'; go_simp; try with_reducible rfl)⟩) (by assumption) ?_; (try simp only [Act.put, List.setIfInBounds_toArray, List.set_cons_zero, List.set_cons_succ]))
      (refine wpAnyH_take (i := 15) (oi := { dst := some 26, op := _, type := _, pos := _, after := _, guard := _ }) (v := ?_) rfl (by kernel_rfl) (by kernel_rfl) (by kernel_rfl) (fun _ _ _ h => h) (Or.inl ⟨by kernel_rfl, (by intro W' hS'; obtain ⟨hq1, hq2⟩ := bcellS hS'; go_simp; try with_reducible rfl)⟩) (by assumption) ?_; (try simp only [Act.put, List.setIfInBounds_toArray, List.set_cons_zero, List.set_cons_succ]))
      refine wpAnyH_ready (rs := [16]) (by kernel_rfl) (by simp) ?_
      refine AllReadyH.cons (o := { dst := some 27, op := _, type := _, pos := _, after := _, guard := _ }) rfl (fun K hK => ?_) AllReadyH.nil
      go_simp
      have hd : Below wr.heap.size wr wr.drew := (Below.refl _ _).drew
      refine (Bytes.copy_any f.bs f.A f.n f.cap _ (hRd.out.sl.ext hd) hRd.out.le hRd.out.n).mono ?_; rintro e w6 ⟨v6, rfl, hown6, hb6⟩
      obtain ⟨A6, n6, c6, rfl, _, _, _, _⟩ := (OwnA.of_own hown6).form
      have hB6 : Below wr.heap.size wr w6 := ext_under hd (Nat.le_refl _) hb6
      have hf6 : ∀ k, (Value.slice A6 n6 c6).ownBlock = some k → wr.heap.size ≤ k := fun k hk => by have := (hown6.lt hk).1; have := hd.size; omega
      have HO6 := Lib.hid (And.intro (OwnA.of_own hown6) hf6)
      refine hK.out _ _ (hB6.mono hwr) (fun hHeld2 => ?_)
      clear hK K hb6 hown6 hf6
      try simp only [Act.put, List.setIfInBounds_toArray, List.set_cons_zero, List.set_cons_succ]
      (refine wpAnyH_take (i := 17) (oi := { dst := some 28, op := _, type := _, pos := _, after := _, guard := _ }) (v := ?_) rfl (by kernel_rfl) (by kernel_rfl) (by kernel_rfl) (fun _ _ _ h => h) (Or.inl ⟨by kernel_rfl, (by intro W' hS'; obtain ⟨hq1, hq2⟩ := bcellS hS'; go_simp; try with_reducible rfl)⟩) (by assumption) ?_; (try simp only [Act.put, List.setIfInBounds_toArray, List.set_cons_zero, List.set_cons_succ]))
      refine wpAnyH_ready (rs := [18]) (by kernel_rfl) (by simp) ?_
      refine AllReadyH.cons (o := { dst := some 29, op := _, type := _, pos := _, after := _, guard := _ }) rfl (fun K hK => ?_) AllReadyH.nil
      go_simp
      refine hK.out _ _ ((hB6.alloc hB6.size _).mono hwr) (fun hHeld3 => ?_)
      clear hK K
      try simp only [Act.put, List.setIfInBounds_toArray, List.set_cons_zero, List.set_cons_succ]
      refine wpAnyH_ready (rs := [19]) (by kernel_rfl) (by simp) ?_
      refine AllReadyH.cons (o := { dst := some 30, op := _, type := _, pos := _, after := _, guard := _ }) rfl (fun K hK => ?_) AllReadyH.nil
      refine Eq.mpr (if_pos (by kernel_rfl)) ?_
      refine wp_append_a _ (.tmp 11) (.tmp 29) 38 rfl 101 i0 _ 3 40 Try.underlying38 hi hz hz1 hz2 rfl (by decide) Pc.cells_len Pc.cells_one (.slice A2 n2 c2) qs rfl ((hC.out.own.own.ext hB6).ext (below_s _ _)) _ (some ⟨w6.heap.size, 0, none⟩) [⟨f.seq, f.last, A6, n6, c6, f.bs⟩] 1 1 rfl rfl (pc27_lit (p := ⟨f.seq, f.last, A6, n6, c6, f.bs⟩)) ?_ ?_ ?_
      · have h := hC.out.len; simp only [List.length_singleton, maxLen]; omega
      · have h := hC.out.len; simp only [List.length_singleton]; omega
      intro v' w9 hown' hchg hat
      obtain ⟨A9, n9, c9, rfl, _, _, _, _⟩ := hown'.form
      have HN := Lib.hid (hC.out.next hX.out hRd.out.le hB6 HO6.out.1 HO6.out.2 hown' hchg hat)
      have hS9 : Below w.heap.size wr w9 := ((hB6.alloc hB6.size _).mono hwr).trans (hchg.below (by have := hB6.size; simp; omega) fun i hi hs => by have h4 : w.heap.size ≤ i := hC.out.own.blk i hs; omega)
      refine hK.out _ _ hS9 (fun hHeld4 => ?_)
      clear hK K
      try simp only [Act.put, List.setIfInBounds_toArray, List.set_cons_zero, List.set_cons_succ]
      (refine wpAnyH_take (i := 20) (oi := { dst := some 3, op := _, type := _, pos := _, after := _, guard := _ }) (v := ?_) rfl (by kernel_rfl) (by kernel_rfl) (by kernel_rfl) (fun _ _ _ h => h) (Or.inl ⟨by kernel_rfl, (by intro W' hS'; obtain ⟨hq1, hq2⟩ := bcellS hS'; go_simp; try with_reducible rfl)⟩) (by assumption) ?_; (try simp only [Act.put, List.setIfInBounds_toArray, List.set_cons_zero, List.set_cons_succ]))
      refine wpAnyH_done (by kernel_rfl) ?_ _
      clear hown' hchg hat hHeld4 hHeld3 hHeld2 hHeld hS0 hB6 HO6 hS9
      go_wp2
      go_roundg (gk - 1)
      case measure => omega
      case rel => exact ⟨j + 1, A9, n9, c9, _, rfl, by go_num, by omega, by omega, HN.out⟩
    · have hall : j = ps.length := by rw [← hn.out]; omega
      have b2 : ¬ (j : Int) < (n : Int) := by omega
      go_wp2
      go_ret
      refine ⟨_, qs, rfl, hC.out.own, ?_, hC.out.be⟩
      rw [hC.out.core, List.take_of_length_le (by simp; omega)]
end Go.Proofs.Ytiljpbncfofnhaa.Send
