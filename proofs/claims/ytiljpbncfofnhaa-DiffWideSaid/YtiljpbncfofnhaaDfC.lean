/- diff: edits that are put together in memory: keep, skip, become. -/
import Derived.Test.YtiljpbncfofnhaaDfB
import Derived.Test.YtiljpbncfofnhaaFoot
import Derived.Outline
import Derived.BigQuiet
import Derived.Deep.QuietTactic
import Derived.Deep.RegionWith
import Derived.Deep.RegionHeld3
import Derived.Deep.DrawnRows
import Derived.Deep.LoopGhost
import Derived.Deep.DeepCutAuto
import Derived.Laws.EntriesVeiled
import Derived.Deep.RegionLaw
namespace Go.Proofs.Ytiljpbncfofnhaa.Dif
open Go.RowKit Go.ChangeShapes Go.WideShapes Go.ChangeAt
set_option linter.unusedVariables false
set_option linter.unusedSimpArgs false
attribute [local go_sem ↓] Go.wp_at_zero Go.wp_at_succ
open FragA FragB MayA Tree EdC EdB
attribute [local go_sem ↓] frEq'
attribute [local go_sem] frGuard

/-- what is no edit's memory and no script's is as it was -/
def KeptD (w w' : World) : Prop := ∀ (b : Nat) (o : Obj), w.heap[b]? = some o → (∀ cs x, o ≠ Obj.cells cs 126 x) → (∀ cs x, o ≠ Obj.cells cs 69 x) → w'.heap[b]? = some o
theorem KeptD.refl (w : World) : KeptD w w := fun _ _ h _ _ => h
theorem KeptD.trans {a b c : World} (h : KeptD a b) (k : KeptD b c) : KeptD a c := fun i o hi h1 h2 => k i o (h i o hi h1 h2) h1 h2
theorem KeptD.of_ext {w w' : World} (hb : Below w.heap.size w w') : KeptD w w' := fun b o h _ _ => (hb.block b (Array.getElem?_eq_some_iff.1 h).1).trans h
theorem KeptD.of_chg {w w' : World} {S : Nat → Prop} (hc : Chg S w w') (hS : ∀ (b : Nat) (o : Obj), S b → w.heap[b]? = some o → (∃ cs x, o = Obj.cells cs 126 x) ∨ ∃ cs x, o = Obj.cells cs 69 x) : KeptD w w' := fun b o h h1 h2 =>
  (hc.block b (Array.getElem?_eq_some_iff.1 h).1 (fun hs => by
    rcases hS b o hs h with ⟨cs, x, e⟩ | ⟨cs, x, e⟩
    · exact h1 cs x e
    · exact h2 cs x e)).trans h
theorem KeptD.blk {w w' : World} (h : KeptD w w') {b : Nat} {t : TypeId} {cs : Array Value} (hb : Blk w b t cs) (h1 : t ≠ 126) (h2 : t ≠ 69) : Blk w' b t cs :=
  h b _ hb (fun _ _ e => by injection e with _ e; exact h1 e) (fun _ _ e => by injection e with _ e; exact h2 e)
structure ScAt (w0 w : World) (g : Nat) (v : Value) (s : List Ed) : Prop where
  blk : Blk w g 126 #[v]
  own : OwnA w 69 12 Ed.cells v s
  fresh : w0.heap.size ≤ g
  vf : ∀ b, v.ownBlock = some b → w0.heap.size ≤ b
  be : Below w0.heap.size w0 w
/-- at g lie the edits s, put together behind w0 -/
def ScIn (w0 w : World) (g : Nat) (s : List Ed) : Prop := ∃ v, ScAt w0 w g v s
theorem ScAt.ext {w0 w w' : World} {g : Nat} {v : Value} {s : List Ed} (h : ScAt w0 w g v s) (hb : Below w.heap.size w w') : ScAt w0 w' g v s := ⟨h.blk.ext hb, h.own.ext hb, h.fresh, h.vf, h.be.trans (hb.mono h.be.size)⟩
theorem ScIn.ext {w0 w w' : World} {g : Nat} {s : List Ed} (h : ScIn w0 w g s) (hb : Below w.heap.size w w') : ScIn w0 w' g s := by
  obtain ⟨v, h⟩ := h
  exact ⟨v, h.ext hb⟩
theorem ScAt.put {w0 w w2 w3 : World} {g : Nat} {v v' : Value} {s xs : List Ed} (h : ScAt w0 w g v s) (hb : Below w.heap.size w w2) (hown : OwnA w3 69 12 Ed.cells v' (s ++ xs)) (hc : Chg (fun i => v.ownBlock = some i) w2 w3)
    (hat : v'.ownBlock = v.ownBlock ∨ v'.ownBlock = some w2.heap.size) : ScIn w0 (w3.setCell ⟨g, 0, none⟩ v') g (s ++ xs) ∧ KeptD w (w3.setCell ⟨g, 0, none⟩ v') := by
  have h2 := h.ext hb
  have hb3 : Blk w3 g 126 #[v] := h2.blk.chg hc (fun e => h2.own.apart h2.blk (by decide) e)
  have hs := h2.be.size
  have hset : Chg (fun i => i = g) w3 (w3.setCell ⟨g, 0, none⟩ v') := (Chg.refl (fun i => i = g) w3).setCell (p := ⟨g, 0, none⟩) (fun _ => rfl) _
  refine ⟨⟨v', hb3.set_ 0 _, hown.chg hset (fun b hb e => by subst e; exact hown.apart hb3 (by decide) hb), h.fresh, fun b hb => ?_, (h2.be.trans (hc.below hs fun i hi e => by have := h.vf i e; omega)).setCell (by have := h.fresh; simpa using this) _⟩, ?_⟩
  · rcases hat with e | e
    · exact h.vf b (e ▸ hb)
    · rw [e] at hb; injection hb with hb; omega
  · refine ((KeptD.of_ext hb).trans (KeptD.of_chg hc fun b o hs ho => ?_)).trans (KeptD.of_chg hset fun b o hs ho => ?_)
    · obtain ⟨_, _, cur, _, hh, _⟩ := h2.own.row hs
      rw [hh] at ho; injection ho with ho
      exact .inr ⟨_, _, ho.symm⟩
    · subst hs
      rw [hb3] at ho; injection ho with ho
      exact .inl ⟨_, _, ho.symm⟩
theorem ed_lit (w : World) (e : Ed) : Sl (w.alloc (.cells #[.int .u8 e.kind, .int .i64 e.n, .int .i64 e.node, .int .i64 e.part, .int .i64 e.f.node, .int .i64 e.f.part, .int .i64 e.f.depth, .int .i64 e.f.x, .int .i64 e.f.y, .int .i64 e.f.w, .int .i64 e.f.h, .string e.f.text] 69)) (w.alloc (.cells #[.int .u8 e.kind, .int .i64 e.n, .int .i64 e.node, .int .i64 e.part, .int .i64 e.f.node, .int .i64 e.f.part, .int .i64 e.f.depth, .int .i64 e.f.x, .int .i64 e.f.y, .int .i64 e.f.w, .int .i64 e.f.h, .string e.f.text] 69)).heap.size 12 Ed.cells (some ⟨w.heap.size, 0, none⟩) [e] :=
  fun _ => ⟨w.heap.size, 0, rfl, by simp, fun k x hx j v hv => by
    rcases k with _ | k
    · simp at hx; subst hx
      rw [show (⟨w.heap.size, 0 + 0 * 12 + j, none⟩ : Addr) = ⟨w.heap.size, j, none⟩ from by simp, (Blk.new w _ _).cell j]
      simpa [Ed.cells] using hv
    · simp at hx⟩
set_option maxRecDepth 100000 in
set_option maxHeartbeats 2000000 in
theorem skip_any {w0 w : World} {g : Nat} {s : List Ed} (h : ScIn w0 w g s) (n : Int) (hs : s.length ≤ 100000000) :
    Calls Try.prog 82 #[.pointer (some ⟨g, 0, none⟩), .int .i64 n] w fun r w' => r = .returned (.tuple #[]) ∧ ScIn w0 w' g (skipD s n) ∧ KeptD w w' := by
  by_cases hn : 0 < n
  · have he : Hid (skipD s n = s ++ [⟨1, n, 0, 0, ⟨0, 0, 0, 0, 0, 0, 0, ⟨#[]⟩⟩⟩]) := by rw [Hid, skipD, if_pos hn]; rfl
    obtain ⟨v, h⟩ := h
    obtain ⟨i0, hi0, hz, hz1, hz2⟩ := info_parts edInfo
    obtain ⟨A3, n3, c3, rfl, _, _, _, _⟩ := h.own.form
    have a1 : Hid (s.length + [(⟨1, n, 0, 0, ⟨0, 0, 0, 0, 0, 0, 0, ⟨#[]⟩⟩⟩ : Ed)].length ≤ maxLen) := by rw [Hid]; simp [maxLen]; omega
    have a2 : Hid ((s.length + [(⟨1, n, 0, 0, ⟨0, 0, 0, 0, 0, 0, 0, ⟨#[]⟩⟩⟩ : Ed)].length) * 104 ≤ 140737488355328) := by rw [Hid]; simp; omega
    have c0 : w.cell? ⟨g, 0, none⟩ = some (.slice A3 n3 c3) := h.blk.cell 0
    have HO : Hid (∀ o, OwnA (w.alloc o) 69 12 Ed.cells (.slice A3 n3 c3) s) := fun o => h.own.ext (EdF.below_a _ _)
    have HL := Lib.hid (ed_lit w ⟨1, n, 0, 0, ⟨0, 0, 0, 0, 0, 0, 0, ⟨#[]⟩⟩⟩)
    have H := Lib.hid h
    have HBX : Hid (∀ o, Blk (w.alloc o) g 126 #[.slice A3 n3 c3]) := fun o => h.blk.ext (EdF.below_a _ _)
    have hgl := h.blk.lt
    clear h
    go_enter Try.func82, Try.ntmps82
    go_wp2_with (at_builtin; refine wpList_append_a _ rfl _ _ _ rfl 69 i0 _ 12 104 Try.underlying126 hi0 hz hz1 hz2 rfl (by decide) Ed.cells_len Ed.cells_one (.slice A3 n3 c3) s (by rfl) (HO.out _) _ (some ⟨w.heap.size, 0, none⟩) [(⟨1, n, 0, 0, ⟨0, 0, 0, 0, 0, 0, 0, ⟨#[]⟩⟩⟩ : Ed)] 1 1 (by rfl) rfl HL.out a1.out a2.out ?_; intro v' w9 hown hchg hat; obtain ⟨A9, n9, c9, rfl, _, _, _, _⟩ := hown.form; have hb4 := (HBX.out _).chg hchg (fun e => H.out.own.apart H.out.blk (by decide) e); have m2 : w9.cell? ⟨g, 0, none⟩ = some (.slice A3 n3 c3) := hb4.cell 0; have q2 := hb4.free 0; have HP := Lib.hid (H.out.put (EdF.below_a w _) hown hchg hat); clear hown hchg hat hb4)
    go_end0
    rw [he.out]
    exact ⟨rfl, HP.out.1, HP.out.2⟩
  · have he : Hid (skipD s n = s) := by rw [Hid, skipD, if_neg hn]
    go_enter Try.func82, Try.ntmps82
    go_wp2
    go_end0
    rw [he.out]
    exact ⟨rfl, h, KeptD.refl _⟩
theorem set_last {s : List Ed} {e x : Ed} (h : s.getLast? = some e) : s.set (s.length - 1) x = s.dropLast ++ [x] ∧ s[s.length - 1]? = some e ∧ 0 < s.length := by
  rcases List.eq_nil_or_concat s with rfl | ⟨r, y, rfl⟩
  · simp at h
  · simp at h
    subst h
    simp [List.concat_eq_append, List.set_append]
set_option maxRecDepth 100000 in
set_option maxHeartbeats 2000000 in
theorem keep_last {w0 w : World} {g : Nat} {s : List Ed} {e : Ed} (h : ScIn w0 w g s) (he : s.getLast? = some e) (hk : e.kind = 0) (hn : 0 ≤ e.n ∧ e.n ≤ 1000000) (hs : s.length ≤ 100000000) :
    Calls Try.prog 102 #[.pointer (some ⟨g, 0, none⟩)] w fun r w' => r = .returned (.tuple #[]) ∧ ScIn w0 w' g (keepD s) ∧ KeptD w w' := by
  obtain ⟨hset, hx, hpos⟩ := set_last (x := ⟨0, e.n + 1, e.node, e.part, e.f⟩) he
  have hD : Hid (keepD s = s.set (s.length - 1) ⟨0, e.n + 1, e.node, e.part, e.f⟩) := by rw [Hid, hset, keepD, he]; simp [hk]
  obtain ⟨v, h⟩ := h
  obtain ⟨A3, n3, c3, rfl, hn3, _, _, _⟩ := h.own.form
  have hl3 : n3 = s.length := hn3.out
  obtain ⟨vb, vo, rfl, hvb, z0, z1, z2, z3, z4, z5, z6, z7, z8, z9, z10, z11⟩ := EdSl.at_ (h.own.sl Ed.cells_len) hx
  obtain ⟨k, hkk⟩ : ∃ k, Hid (s.length - 1 = k) := ⟨_, rfl⟩
  rw [hkk.out] at z0 z1 hx
  rw [hk] at z0
  have c0 : w.cell? ⟨g, 0, none⟩ = some (.slice (some ⟨vb, vo, none⟩) n3 c3) := h.blk.cell 0
  obtain ⟨off', cap', cur, hv, hgg, _⟩ := h.own.row (g := vb) rfl
  have fz : w.frozen? ⟨vb, vo + k * 12 + 1, none⟩ = false := frozen_of_row w vb _ cur _ hgg
  have hset2 : Chg (fun i => i = vb) w (w.setCell ⟨vb, vo + k * 12 + 1, none⟩ (.int .i64 (e.n + 1))) := (Chg.refl (fun i => i = vb) w).setCell (p := ⟨vb, _, none⟩) (fun _ => rfl) _
  have hne : g ≠ vb := fun e => by subst e; exact h.own.apart h.blk (by decide) rfl
  have HP : Hid (ScIn w0 (w.setCell ⟨vb, vo + k * 12 + 1, none⟩ (.int .i64 (e.n + 1))) g (s.set k ⟨0, e.n + 1, e.node, e.part, e.f⟩) ∧ KeptD w (w.setCell ⟨vb, vo + k * 12 + 1, none⟩ (.int .i64 (e.n + 1)))) := by
    refine ⟨⟨_, h.blk.chg hset2 hne, h.own.store Ed.cells_len hx (by omega) (by simp [Ed.cells, hk]), h.fresh, h.vf, h.be.setCell (by simpa using h.vf vb rfl) _⟩, KeptD.of_chg hset2 fun b o hb ho => ?_⟩
    subst hb
    rw [hgg] at ho; injection ho with ho
    exact .inr ⟨_, _, ho.symm⟩
  have hk2 : (k : Int) = (n3 : Int) - 1 := by have := hkk.out; omega
  have hw1 : IntKind.i64.wrap ((n3 : Int) - 1) = (k : Int) := (IntWalk.i64_in _ (by omega)).trans hk2.symm
  have hw2 : IntKind.i64.wrap (e.n + 1) = e.n + 1 := IntWalk.i64_in _ (by omega)
  have b1 : (0 : Int) ≤ (k : Int) := Int.natCast_nonneg _
  have b2 : (k : Int) < (n3 : Int) := by omega
  have b3 : (0 : Int) < (n3 : Int) := by omega
  have b4 : decide (0 < n3) = true := decide_eq_true (by omega)
  clear h hx hset hv hgg hset2 hl3 hk2 z2 z3 z4 z5 z6 z7 z8 z9 z10 z11 hn3 he
  rw [hkk.out] at hD
  go_enter Try.func102, Try.ntmps102
  go_wp2
  refine bodyPost_ret (v := .tuple #[]) (by simp [results, Try.results102, go_sem]) rfl ?_
  rw [hD.out]
  exact ⟨rfl, HP.out.1, HP.out.2⟩
set_option maxRecDepth 100000 in
set_option maxHeartbeats 2000000 in
theorem keep_new {w0 w : World} {g : Nat} {s : List Ed} (h : ScIn w0 w g s) (he : ∀ e, s.getLast? = some e → e.kind ≠ 0) (hs : s.length ≤ 100000000) :
    Calls Try.prog 102 #[.pointer (some ⟨g, 0, none⟩)] w fun r w' => r = .returned (.tuple #[]) ∧ ScIn w0 w' g (keepD s) ∧ KeptD w w' := by
  have hD : Hid (keepD s = s ++ [⟨0, 1, 0, 0, ⟨0, 0, 0, 0, 0, 0, 0, ⟨#[]⟩⟩⟩]) := by
    rw [Hid, keepD]
    cases hl : s.getLast? with
    | none => rfl
    | some e => simp only [if_neg (he e hl)]; rfl
  obtain ⟨v, h⟩ := h
  obtain ⟨A3, n3, c3, rfl, hn3, _, _, _⟩ := h.own.form
  have hl3 : n3 = s.length := hn3.out
  by_cases h0 : n3 = 0
  · have Hl3 := Lib.hid hl3
    clear hl3 he hn3
    subst h0
    obtain ⟨i0, hi0, hz, hz1, hz2⟩ := info_parts edInfo; have a1 : Hid (s.length + [((⟨0, 1, 0, 0, ⟨0, 0, 0, 0, 0, 0, 0, ⟨#[]⟩⟩⟩) : Ed)].length ≤ maxLen) := (by rw [Hid]; simp [maxLen]; omega); have a2 : Hid ((s.length + [((⟨0, 1, 0, 0, ⟨0, 0, 0, 0, 0, 0, 0, ⟨#[]⟩⟩⟩) : Ed)].length) * 104 ≤ 140737488355328) := (by rw [Hid]; simp; omega); have c0 : w.cell? ⟨g, 0, none⟩ = some (.slice A3 0 c3) := h.blk.cell 0; have HO : Hid (∀ o, OwnA (w.alloc o) 69 12 Ed.cells (.slice A3 0 c3) s) := fun o => h.own.ext (EdF.below_a _ _); have HL := Lib.hid (ed_lit w (⟨0, 1, 0, 0, ⟨0, 0, 0, 0, 0, 0, 0, ⟨#[]⟩⟩⟩)); have H := Lib.hid h; have HBX : Hid (∀ o, Blk (w.alloc o) g 126 #[.slice A3 0 c3]) := fun o => h.blk.ext (EdF.below_a _ _); have hgl := h.blk.lt; clear h
    go_enter Try.func102, Try.ntmps102
    go_wp2_with (at_builtin; refine wpList_append_a _ rfl _ _ _ rfl 69 i0 _ 12 104 Try.underlying126 hi0 hz hz1 hz2 rfl (by decide) Ed.cells_len Ed.cells_one (.slice A3 0 c3) s (by rfl) (HO.out _) _ (some ⟨w.heap.size, 0, none⟩) [(⟨0, 1, 0, 0, ⟨0, 0, 0, 0, 0, 0, 0, ⟨#[]⟩⟩⟩ : Ed)] 1 1 (by rfl) rfl HL.out a1.out a2.out ?_; intro v' w9 hown hchg hat; obtain ⟨A9, n9, c9, rfl, _, _, _, _⟩ := hown.form; have hb4 := (HBX.out _).chg hchg (fun e => H.out.own.apart H.out.blk (by decide) e); have m2 : w9.cell? ⟨g, 0, none⟩ = some (.slice A3 0 c3) := hb4.cell 0; have q2 := hb4.free 0; have HP := Lib.hid (H.out.put (EdF.below_a _ _) hown hchg hat); clear hown hchg hat hb4)
    go_end0
    rw [hD.out]
    exact ⟨rfl, HP.out.1, HP.out.2⟩
  · obtain ⟨e, hel⟩ : ∃ e, s.getLast? = some e := by
      cases hl : s.getLast? with
      | none => rw [List.getLast?_eq_none_iff] at hl; subst hl; simp at hl3; omega
      | some e => exact ⟨e, rfl⟩
    obtain ⟨_, hx, hpos⟩ := set_last (x := e) hel
    have hk := he e hel
    obtain ⟨vb, vo, rfl, hvb, z0, z1, z2, z3, z4, z5, z6, z7, z8, z9, z10, z11⟩ := EdSl.at_ (h.own.sl Ed.cells_len) hx
    obtain ⟨k, hkk⟩ : ∃ k, Hid (s.length - 1 = k) := ⟨_, rfl⟩
    rw [hkk.out] at z0
    have hk2 : (k : Int) = (n3 : Int) - 1 := by have := hkk.out; omega
    have hw1 : IntKind.i64.wrap ((n3 : Int) - 1) = (k : Int) := (IntWalk.i64_in _ (by omega)).trans hk2.symm
    have b1 : (0 : Int) ≤ (k : Int) := Int.natCast_nonneg _
    have b2 : (k : Int) < (n3 : Int) := by omega
    have b3 : (0 : Int) < (n3 : Int) := by omega
    have b4 : decide (0 < n3) = true := decide_eq_true (by omega)
    have b5 : (e.kind == 0) = false := by simpa using hk
    obtain ⟨i0, hi0, hz, hz1, hz2⟩ := info_parts edInfo; have a1 : Hid (s.length + [((⟨0, 1, 0, 0, ⟨0, 0, 0, 0, 0, 0, 0, ⟨#[]⟩⟩⟩) : Ed)].length ≤ maxLen) := (by rw [Hid]; simp [maxLen]; omega); have a2 : Hid ((s.length + [((⟨0, 1, 0, 0, ⟨0, 0, 0, 0, 0, 0, 0, ⟨#[]⟩⟩⟩) : Ed)].length) * 104 ≤ 140737488355328) := (by rw [Hid]; simp; omega); have c0 : w.cell? ⟨g, 0, none⟩ = some (.slice (some ⟨vb, vo, none⟩) n3 c3) := h.blk.cell 0; have HO : Hid (∀ o, OwnA (w.alloc o) 69 12 Ed.cells (.slice (some ⟨vb, vo, none⟩) n3 c3) s) := fun o => h.own.ext (EdF.below_a _ _); have HL := Lib.hid (ed_lit w (⟨0, 1, 0, 0, ⟨0, 0, 0, 0, 0, 0, 0, ⟨#[]⟩⟩⟩)); have H := Lib.hid h; have HBX : Hid (∀ o, Blk (w.alloc o) g 126 #[.slice (some ⟨vb, vo, none⟩) n3 c3]) := fun o => h.blk.ext (EdF.below_a _ _); have hgl := h.blk.lt; clear h
    clear hx hk he hel hk2 hn3 hl3 z1 z2 z3 z4 z5 z6 z7 z8 z9 z10 z11 h0
    go_enter Try.func102, Try.ntmps102
    go_wp2_with (at_builtin; refine wpList_append_a _ rfl _ _ _ rfl 69 i0 _ 12 104 Try.underlying126 hi0 hz hz1 hz2 rfl (by decide) Ed.cells_len Ed.cells_one (.slice (some ⟨vb, vo, none⟩) n3 c3) s (by rfl) (HO.out _) _ (some ⟨w.heap.size, 0, none⟩) [(⟨0, 1, 0, 0, ⟨0, 0, 0, 0, 0, 0, 0, ⟨#[]⟩⟩⟩ : Ed)] 1 1 (by rfl) rfl HL.out a1.out a2.out ?_; intro v' w9 hown hchg hat; obtain ⟨A9, n9, c9, rfl, _, _, _, _⟩ := hown.form; have hb4 := (HBX.out _).chg hchg (fun e => H.out.own.apart H.out.blk (by decide) e); have m2 : w9.cell? ⟨g, 0, none⟩ = some (.slice (some ⟨vb, vo, none⟩) n3 c3) := hb4.cell 0; have q2 := hb4.free 0; have HP := Lib.hid (H.out.put (EdF.below_a _ _) hown hchg hat); clear hown hchg hat hb4)
    go_end0
    rw [hD.out]
    exact ⟨rfl, HP.out.1, HP.out.2⟩
end Go.Proofs.Ytiljpbncfofnhaa.Dif
