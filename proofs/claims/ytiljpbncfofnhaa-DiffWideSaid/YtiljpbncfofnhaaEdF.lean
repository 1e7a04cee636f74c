/- edit: the loom in memory: next, keep, skip, insert. -/
import Derived.Test.YtiljpbncfofnhaaEdE
import Derived.Test.YtiljpbncfofnhaaFoot
import Derived.Outline
import Derived.BigQuiet
import Derived.Deep.QuietTactic
import Derived.Deep.RegionWith
import Derived.Deep.RegionHeld3
import Derived.Deep.DrawnRows
import Derived.Deep.LoopGhost
import Derived.Deep.DeepCutAuto
import Derived.Laws.EntriesVeiled
import Derived.Deep.RegionLaw
namespace Go.Proofs.Ytiljpbncfofnhaa.EdF
open Go.RowKit Go.ChangeShapes Go.WideShapes Go.ChangeAt
set_option linter.unusedVariables false
set_option linter.unusedSimpArgs false
attribute [local go_sem ↓] Go.wp_at_zero Go.wp_at_succ
open MayA FragA FragB EdC

/-- blocks of other kinds are as they were -/
def Kept (w w' : World) : Prop := ∀ b t cs, Blk w b t cs → t ≠ 118 → t ≠ 67 → Blk w' b t cs
theorem Kept.refl (w : World) : Kept w w := fun _ _ _ h _ _ => h
theorem Kept.trans {a b c : World} (h : Kept a b) (k : Kept b c) : Kept a c := fun i t cs hi h1 h2 => k i t cs (h i t cs hi h1 h2) h1 h2
theorem Kept.of_ext {w w' : World} (hb : Below w.heap.size w w') : Kept w w' := fun _ _ _ h _ _ => h.ext hb
theorem Kept.of_loom {w w' : World} {g : Nat} {cs : Array Value} (hg : Blk w g 118 cs) (hc : Chg (fun i => i = g) w w') : Kept w w' := fun b t cs' h h1 _ => h.chg hc (fun e => by subst e; exact (Blk.apart h hg h1) rfl)
theorem Kept.of_frag {w w' : World} {g : Nat} {cs : Array Value} (hg : Blk w g 67 cs) (hc : Chg (fun i => i = g) w w') : Kept w w' := fun b t cs' h _ h2 => h.chg hc (fun e => by subst e; exact (Blk.apart h hg h2) rfl)
theorem Kept.of_own {w w' : World} {v : Value} {l : List Fr} (hv : OwnA w 67 8 Fr.cells v l) (hc : Chg (fun i => v.ownBlock = some i) w w') : Kept w w' := fun b t cs' h _ h2 => h.chg hc (fun e => hv.apart h (fun e => h2 e.symm) e)
/-- at g lies the loom over the fragments l (of the slice A n cap, as they stand at w0): k of them are taken, out is put -/
structure LoomAt (w0 w : World) (g : Nat) (A : Option Addr) (n cap : Nat) (l : List Fr) (k : Nat) (A2 : Option Addr) (n2 c2 : Nat) (v : Value) (out : List Fr) : Prop where
  blk : Blk w g 118 #[.slice A n cap, .slice A2 n2 c2, v]
  fresh : w0.heap.size ≤ g
  be : Below w0.heap.size w0 w
  left : FrSl w0 w0.heap.size A2 (l.drop k)
  len : Hid (n2 = (l.drop k).length)
  le : n2 ≤ c2
  own : OwnA w 67 8 Fr.cells v out
  vf : ∀ b, v.ownBlock = some b → w0.heap.size ≤ b
section
variable {w0 w w' : World} {g : Nat} {A : Option Addr} {n cap : Nat} {l : List Fr} {k : Nat} {A2 : Option Addr} {n2 c2 : Nat} {v : Value} {out : List Fr}
theorem LoomAt.ext (h : LoomAt w0 w g A n cap l k A2 n2 c2 v out) (hb : Below w.heap.size w w') : LoomAt w0 w' g A n cap l k A2 n2 c2 v out :=
  ⟨h.blk.ext hb, h.fresh, h.be.trans (hb.mono h.be.size), h.left, h.len, h.le, h.own.ext hb, h.vf⟩
theorem LoomAt.chg {S : Nat → Prop} (h : LoomAt w0 w g A n cap l k A2 n2 c2 v out) (hc : Chg S w w') (hS : ∀ i, S i → w0.heap.size ≤ i) (hn : ¬ S g) (hv : ∀ b, v.ownBlock = some b → ¬ S b) : LoomAt w0 w' g A n cap l k A2 n2 c2 v out :=
  ⟨h.blk.chg hc hn, h.fresh, h.be.trans (hc.below h.be.size fun i hi hs => by have := hS i hs; omega), h.left, h.len, h.le, h.own.chg hc hv, h.vf⟩
theorem LoomAt.cut (h : LoomAt w0 w g A n cap l k A2 n2 c2 v out) (m : Nat) (hm : m ≤ n2) :
    LoomAt w0 (w.setCell ⟨g, 1, none⟩ (.slice (cutA A2 c2 m 8) (n2 - m) (c2 - m))) g A n cap l (k + m) (cutA A2 c2 m 8) (n2 - m) (c2 - m) v out := by
  have hn := h.len.out
  have hl := h.left.cut c2 m (by have := h.le; omega)
  rw [List.drop_drop] at hl
  refine ⟨h.blk.set_ 1 _, h.fresh, h.be.setCell (by have := h.fresh; simpa using this) _, hl, ?_, by have := h.le; omega, h.own.chg ((Chg.refl (fun i => i = g) w).setCell (p := ⟨g, 1, none⟩) (fun _ => rfl) _) (fun b hb e => by subst e; exact h.own.apart h.blk (by decide) hb), h.vf⟩
  rw [Hid, hn, List.length_drop, List.length_drop]; omega
/-- behind an append onto what is put, and the store of it -/
theorem LoomAt.put {w2 w3 : World} {v' : Value} {xs : List Fr} (h : LoomAt w0 w g A n cap l k A2 n2 c2 v out) (hb : Below w.heap.size w w2) (hown : OwnA w3 67 8 Fr.cells v' (out ++ xs)) (hc : Chg (fun i => v.ownBlock = some i) w2 w3)
    (hat : v'.ownBlock = v.ownBlock ∨ v'.ownBlock = some w2.heap.size) : LoomAt w0 (w3.setCell ⟨g, 2, none⟩ v') g A n cap l k A2 n2 c2 v' (out ++ xs) := by
  have h2 := h.ext hb
  have hb3 : Blk w3 g 118 #[.slice A n cap, .slice A2 n2 c2, v] := h2.blk.chg hc (fun e => h2.own.apart h2.blk (by decide) e)
  have hs := h2.be.size
  refine ⟨hb3.set_ 2 _, h.fresh, (h2.be.trans (hc.below hs fun i hi e => by have := h.vf i e; omega)).setCell (by have := h.fresh; simpa using this) _, h.left, h.len, h.le, hown.chg ((Chg.refl (fun i => i = g) w3).setCell (p := ⟨g, 2, none⟩) (fun _ => rfl) _) (fun b hb e => by subst e; exact hown.apart hb3 (by decide) hb), fun b hb => ?_⟩
  rcases hat with e | e
  · exact h.vf b (e ▸ hb)
  · rw [e] at hb; injection hb with hb; omega
end
theorem LoomAt.put_kept {w0 w w2 w3 : World} {g : Nat} {A : Option Addr} {n cap : Nat} {l : List Fr} {k : Nat} {A2 : Option Addr} {n2 c2 : Nat} {v : Value} {out : List Fr} (u : Value) (h : LoomAt w0 w g A n cap l k A2 n2 c2 v out) (hb : Below w.heap.size w w2) (hc : Chg (fun i => v.ownBlock = some i) w2 w3) : Kept w (w3.setCell ⟨g, 2, none⟩ u) := by
  have h2 := h.ext hb
  have hb3 : Blk w3 g 118 #[.slice A n cap, .slice A2 n2 c2, v] := h2.blk.chg hc (fun e => h2.own.apart h2.blk (by decide) e)
  exact ((Kept.of_ext hb).trans (Kept.of_own h2.own hc)).trans (Kept.of_loom hb3 ((Chg.refl (fun i => i = g) w3).setCell (p := ⟨g, 2, none⟩) (fun _ => rfl) u))
theorem fslo (A : Option Addr) (n cap : Nat) (k : Int) (h0 : 0 ≤ k) (h1 : k ≤ (n : Int)) (W : World) :
    (Instr.slice 59 (.slice A n cap) (some (.int .i64 k)) none none).run Try.prog W = .ok (.slice (cutA A cap k.toNat 8) (n - k.toNat) (cap - k.toNat)) W :=
  run_slice_lo Try.underlying59 (Option.isSome_iff_exists.1 (by kernel_rfl)) (by kernel_rfl) A n cap k h0 h1 W
theorem fshi (A : Option Addr) (n cap : Nat) (k : Int) (h0 : 0 ≤ k) (h1 : k ≤ (cap : Int)) (W : World) :
    (Instr.slice 59 (.slice A n cap) none (some (.int .i64 k)) none).run Try.prog W = .ok (.slice A k.toNat cap) W :=
  run_slice_hi (c := 8) Try.underlying59 (Option.isSome_iff_exists.1 (by kernel_rfl)) (by kernel_rfl) A n cap k h0 h1 W
section
variable {w0 w : World} {g : Nat} {A : Option Addr} {n cap : Nat} {l : List Fr} {k : Nat} {A2 : Option Addr} {n2 c2 : Nat} {v : Value} {out : List Fr}
theorem next_no (h : LoomAt w0 w g A n cap l k A2 n2 c2 v out) (m : Int) (hm : (n2 : Int) < m) (h63 : n2 ≤ 100000000) :
    Calls Try.prog 109 #[.pointer (some ⟨g, 0, none⟩), .int .i64 m] w fun e w' => e = .returned (.tuple #[.slice none 0 0, .bool false]) ∧ w = w' := by
  have c1 : w.cell? ⟨g, 1, none⟩ = some (.slice A2 n2 c2) := h.blk.cell 1
  clear h
  go_enter Try.func109, Try.ntmps109
  go_wp2
  go_ret2
  exact ⟨rfl, rfl⟩
theorem next_yes (h : LoomAt w0 w g A n cap l k A2 n2 c2 v out) (m : Nat) (hm : m ≤ n2) (h63 : n2 ≤ 100000000) :
    Calls Try.prog 109 #[.pointer (some ⟨g, 0, none⟩), .int .i64 (m : Int)] w fun e w' => e = .returned (.tuple #[.slice A2 m c2, .bool true]) ∧ LoomAt w0 w' g A n cap l (k + m) (cutA A2 c2 m 8) (n2 - m) (c2 - m) v out ∧ Chg (fun i => i = g) w w' := by
  have c1 : w.cell? ⟨g, 1, none⟩ = some (.slice A2 n2 c2) := h.blk.cell 1
  have f1 := h.blk.free 1
  have HC := Lib.hid (h.cut m hm)
  have s1 : ∀ W, (Instr.slice 59 (.slice A2 n2 c2) none (some (.int .i64 (m : Int))) none).run Try.prog W = .ok (.slice A2 m c2) W := fun W => by
    have := fshi A2 n2 c2 (m : Int) (by omega) (by have := h.le; omega) W
    simpa using this
  have s2 : ∀ W, (Instr.slice 59 (.slice A2 n2 c2) (some (.int .i64 (m : Int))) none none).run Try.prog W = .ok (.slice (cutA A2 c2 m 8) (n2 - m) (c2 - m)) W := fun W => by
    have := fslo A2 n2 c2 (m : Int) (by omega) (by omega) W
    simpa using this
  have b1 : ¬ (n2 : Int) < (m : Int) := by omega
  clear h
  go_enter Try.func109, Try.ntmps109
  go_wp2
  go_ret2
  exact ⟨rfl, HC.out, (Chg.refl (fun i => i = g) w).setCell (p := ⟨g, 1, none⟩) (fun _ => rfl) _⟩
end
/-- the loom, however it stands -/
def LoomIn (w0 w : World) (g : Nat) (A : Option Addr) (n cap : Nat) (l : List Fr) (k : Nat) (out : List Fr) : Prop := ∃ A2 n2 c2 v, LoomAt w0 w g A n cap l k A2 n2 c2 v out
section
variable {w0 w : World} {g : Nat} {A : Option Addr} {n cap : Nat} {l : List Fr} {k : Nat} {out : List Fr}
theorem LoomIn.ext {w' : World} (h : LoomIn w0 w g A n cap l k out) (hb : Below w.heap.size w w') : LoomIn w0 w' g A n cap l k out := by
  obtain ⟨A2, n2, c2, v, h⟩ := h
  exact ⟨A2, n2, c2, v, h.ext hb⟩
theorem LoomIn.be {w0 w : World} (h : LoomIn w0 w g A n cap l k out) : Below w0.heap.size w0 w := by
  obtain ⟨A2, n2, c2, v, h⟩ := h
  exact h.be
theorem below_a (w : World) (o : Obj) : Below w.heap.size w (w.alloc o) := (Below.refl _ _).alloc (Nat.le_refl _) o
set_option maxHeartbeats 2000000 in
theorem skip_yes (h : LoomIn w0 w g A n cap l k out) (e : Ed) (m : Nat) (he : e.n = (m : Int)) (hm : k + m ≤ l.length) (h63 : l.length ≤ 100000000) :
    Calls Try.prog 96 #[.pointer (some ⟨g, 0, none⟩), e.agg] w fun r w' => r = .returned (.bool true) ∧ LoomIn w0 w' g A n cap l (k + m) out ∧ Kept w w' := by
  obtain ⟨A2, n2, c2, v, h⟩ := h
  have hn := h.len.out
  rw [List.length_drop] at hn
  have HN := Lib.hid (next_yes (h.ext (below_a w (.cells #[.int .u8 e.kind, .int .i64 e.n, .int .i64 e.node, .int .i64 e.part, .int .i64 e.f.node, .int .i64 e.f.part, .int .i64 e.f.depth, .int .i64 e.f.x, .int .i64 e.f.y, .int .i64 e.f.w, .int .i64 e.f.h, .string e.f.text] 69))) m (by omega) (by omega))
  have HBk := Lib.hid (h.ext (below_a w (.cells #[.int .u8 e.kind, .int .i64 e.n, .int .i64 e.node, .int .i64 e.part, .int .i64 e.f.node, .int .i64 e.f.part, .int .i64 e.f.depth, .int .i64 e.f.x, .int .i64 e.f.y, .int .i64 e.f.w, .int .i64 e.f.h, .string e.f.text] 69))).blk
  unfold Ed.agg
  rw [he] at HN HBk ⊢
  clear h
  go_enter Try.func96, Try.ntmps96
  go_wp2_with fail
  refine (HN.out).mono ?_; rintro r w1 ⟨rfl, h1, hch⟩
  have H1 := Lib.hid h1
  have HK := Lib.hid ((Kept.of_ext (below_a w _)).trans (Kept.of_loom HBk.out hch))
  clear h1 hch
  go_wp2
  go_ret
  exact ⟨rfl, ⟨_, _, _, _, H1.out⟩, HK.out⟩
set_option maxHeartbeats 2000000 in
theorem skip_no (h : LoomIn w0 w g A n cap l k out) (e : Ed) (hm : ((l.length - k : Nat) : Int) < e.n) (h63 : l.length ≤ 100000000) :
    Calls Try.prog 96 #[.pointer (some ⟨g, 0, none⟩), e.agg] w fun r w' => r = .returned (.bool false) ∧ Below w0.heap.size w0 w' ∧ Kept w w' := by
  obtain ⟨A2, n2, c2, v, h⟩ := h
  have hn := h.len.out
  rw [List.length_drop] at hn
  have HN := Lib.hid (next_no (h.ext (below_a w (.cells #[.int .u8 e.kind, .int .i64 e.n, .int .i64 e.node, .int .i64 e.part, .int .i64 e.f.node, .int .i64 e.f.part, .int .i64 e.f.depth, .int .i64 e.f.x, .int .i64 e.f.y, .int .i64 e.f.w, .int .i64 e.f.h, .string e.f.text] 69))) e.n (by omega) (by omega))
  have HB := Lib.hid (h.ext (below_a w (.cells #[.int .u8 e.kind, .int .i64 e.n, .int .i64 e.node, .int .i64 e.part, .int .i64 e.f.node, .int .i64 e.f.part, .int .i64 e.f.depth, .int .i64 e.f.x, .int .i64 e.f.y, .int .i64 e.f.w, .int .i64 e.f.h, .string e.f.text] 69))).be
  unfold Ed.agg
  clear h
  go_enter Try.func96, Try.ntmps96
  go_wp2_with fail
  refine (HN.out).mono ?_; rintro r w1 ⟨rfl, rfl⟩
  go_wp2
  go_ret
  exact ⟨rfl, HB.out, Kept.of_ext (below_a _ _)⟩
set_option maxRecDepth 100000 in
set_option maxHeartbeats 2000000 in
theorem keep_yes (h : LoomIn w0 w g A n cap l k out) (e : Ed) (m : Nat) (he : e.n = (m : Int)) (hm : k + m ≤ l.length) (h63 : l.length ≤ 100000000) (hout : out.length ≤ 100000000) :
    Calls Try.prog 95 #[.pointer (some ⟨g, 0, none⟩), e.agg] w fun r w' => r = .returned (.bool true) ∧ LoomIn w0 w' g A n cap l (k + m) (out ++ (l.drop k).take m) ∧ Kept w w' := by
  obtain ⟨A2, n2, c2, v, h⟩ := h
  obtain ⟨i0, hi0, hz, hz1, hz2⟩ := info_parts frInfo
  have hn := h.len.out
  rw [List.length_drop] at hn
  have HN := Lib.hid (next_yes (h.ext (below_a w (.cells #[.int .u8 e.kind, .int .i64 e.n, .int .i64 e.node, .int .i64 e.part, .int .i64 e.f.node, .int .i64 e.f.part, .int .i64 e.f.depth, .int .i64 e.f.x, .int .i64 e.f.y, .int .i64 e.f.w, .int .i64 e.f.h, .string e.f.text] 69))) m (by omega) (by omega))
  have HBk := Lib.hid (h.ext (below_a w (.cells #[.int .u8 e.kind, .int .i64 e.n, .int .i64 e.node, .int .i64 e.part, .int .i64 e.f.node, .int .i64 e.f.part, .int .i64 e.f.depth, .int .i64 e.f.x, .int .i64 e.f.y, .int .i64 e.f.w, .int .i64 e.f.h, .string e.f.text] 69))).blk
  have HL := Lib.hid (h.left.take m)
  have hml : Hid (m = ((l.drop k).take m).length) := by rw [Hid, List.length_take, List.length_drop]; omega
  have a1 : Hid (out.length + ((l.drop k).take m).length ≤ maxLen) := by rw [Hid, ← hml.out]; simp [maxLen]; omega
  have a2 : Hid ((out.length + ((l.drop k).take m).length) * 72 ≤ 140737488355328) := by rw [Hid, ← hml.out]; omega
  unfold Ed.agg
  rw [he] at HN HBk ⊢
  clear h
  go_enter Try.func95, Try.ntmps95
  go_wp2_with fail
  refine (HN.out).mono ?_; rintro r w1 ⟨rfl, h1, hch⟩
  have HK := Lib.hid ((Kept.of_ext (below_a w _)).trans (Kept.of_loom HBk.out hch))
  clear hch
  obtain ⟨A3, n3, c3, rfl, _, _, _, _⟩ := h1.own.form
  have H1 := Lib.hid h1
  have HS := Lib.hid (HL.out.below h1.be)
  have d2 : w1.cell? ⟨g, 2, none⟩ = some (.slice A3 n3 c3) := h1.blk.cell 2
  clear h1
  go_wp2_with (at_builtin; refine wpList_append_a _ rfl _ _ _ rfl 67 i0 _ 8 72 Try.underlying59 hi0 hz hz1 hz2 rfl (by decide) Fr.cells_len Fr.cells_one (.slice A3 n3 c3) out (by rfl) H1.out.own _ A2 ((l.drop k).take m) m c2 (by rfl) hml.out HS.out a1.out a2.out ?_; intro v' w3 hown hchg hat; obtain ⟨A4, n4, c4, rfl, _, _, _, _⟩ := hown.form; have hb4 := H1.out.blk.chg hchg (fun e => H1.out.own.apart H1.out.blk (by decide) e); have m2 : w3.cell? ⟨g, 2, none⟩ = some (.slice A3 n3 c3) := hb4.cell 2; have q2 := hb4.free 2; have HP := Lib.hid (H1.out.put (Below.refl _ _) hown hchg hat); have HK2 := Lib.hid (H1.out.put_kept (.slice A4 n4 c4) (Below.refl _ _) hchg); clear hown hchg hat hb4)
  go_ret
  exact ⟨rfl, ⟨_, _, _, _, HP.out⟩, HK.out.trans HK2.out⟩
set_option maxRecDepth 100000 in
set_option maxHeartbeats 2000000 in
theorem keep_no (h : LoomIn w0 w g A n cap l k out) (e : Ed) (hm : ((l.length - k : Nat) : Int) < e.n) (h63 : l.length ≤ 100000000) (hout : out.length ≤ 100000000) :
    Calls Try.prog 95 #[.pointer (some ⟨g, 0, none⟩), e.agg] w fun r w' => r = .returned (.bool false) ∧ Below w0.heap.size w0 w' ∧ Kept w w' := by
  obtain ⟨A2, n2, c2, v, h⟩ := h
  obtain ⟨i0, hi0, hz, hz1, hz2⟩ := info_parts frInfo
  have hn := h.len.out
  rw [List.length_drop] at hn
  have HN := Lib.hid (next_no (h.ext (below_a w (.cells #[.int .u8 e.kind, .int .i64 e.n, .int .i64 e.node, .int .i64 e.part, .int .i64 e.f.node, .int .i64 e.f.part, .int .i64 e.f.depth, .int .i64 e.f.x, .int .i64 e.f.y, .int .i64 e.f.w, .int .i64 e.f.h, .string e.f.text] 69))) e.n (by omega) (by omega))
  have a1 : Hid (out.length + ([] : List Fr).length ≤ maxLen) := by rw [Hid]; simp [maxLen]; omega
  have a2 : Hid ((out.length + ([] : List Fr).length) * 72 ≤ 140737488355328) := by rw [Hid]; simp; omega
  obtain ⟨A3, n3, c3, rfl, _, _, _, _⟩ := h.own.form
  have H1 := Lib.hid (h.ext (below_a w (.cells #[.int .u8 e.kind, .int .i64 e.n, .int .i64 e.node, .int .i64 e.part, .int .i64 e.f.node, .int .i64 e.f.part, .int .i64 e.f.depth, .int .i64 e.f.x, .int .i64 e.f.y, .int .i64 e.f.w, .int .i64 e.f.h, .string e.f.text] 69)))
  have d2 : (w.alloc (.cells #[.int .u8 e.kind, .int .i64 e.n, .int .i64 e.node, .int .i64 e.part, .int .i64 e.f.node, .int .i64 e.f.part, .int .i64 e.f.depth, .int .i64 e.f.x, .int .i64 e.f.y, .int .i64 e.f.w, .int .i64 e.f.h, .string e.f.text] 69)).cell? ⟨g, 2, none⟩ = some (.slice A3 n3 c3) := H1.out.blk.cell 2
  unfold Ed.agg
  clear h
  go_enter Try.func95, Try.ntmps95
  go_wp2_with fail
  refine (HN.out).mono ?_; rintro r w1 ⟨rfl, rfl⟩
  have HK := Lib.hid (Kept.of_ext (below_a w (.cells #[.int .u8 e.kind, .int .i64 e.n, .int .i64 e.node, .int .i64 e.part, .int .i64 e.f.node, .int .i64 e.f.part, .int .i64 e.f.depth, .int .i64 e.f.x, .int .i64 e.f.y, .int .i64 e.f.w, .int .i64 e.f.h, .string e.f.text] 69)))
  generalize w.alloc (.cells #[.int .u8 e.kind, .int .i64 e.n, .int .i64 e.node, .int .i64 e.part, .int .i64 e.f.node, .int .i64 e.f.part, .int .i64 e.f.depth, .int .i64 e.f.x, .int .i64 e.f.y, .int .i64 e.f.w, .int .i64 e.f.h, .string e.f.text] 69) = w1 at *
  go_wp2_with (at_builtin; refine wpList_append_a _ rfl _ _ _ rfl 67 i0 _ 8 72 Try.underlying59 hi0 hz hz1 hz2 rfl (by decide) Fr.cells_len Fr.cells_one (.slice A3 n3 c3) out (by rfl) H1.out.own 0 none [] 0 0 (by rfl) rfl (Sl.nil _ _ _ _ _) a1.out a2.out ?_; intro v' w3 hown hchg hat; obtain ⟨A4, n4, c4, rfl, _, _, _, _⟩ := hown.form; have hb4 := H1.out.blk.chg hchg (fun e => H1.out.own.apart H1.out.blk (by decide) e); have m2 : w3.cell? ⟨g, 2, none⟩ = some (.slice A3 n3 c3) := hb4.cell 2; have q2 := hb4.free 2; have HP := Lib.hid (H1.out.put (Below.refl _ _) hown hchg hat); have HK2 := Lib.hid (H1.out.put_kept (.slice A4 n4 c4) (Below.refl _ _) hchg); clear hown hchg hat hb4)
  go_ret
  exact ⟨rfl, HP.out.be, HK.out.trans HK2.out⟩
end
end Go.Proofs.Ytiljpbncfofnhaa.EdF
