/- law 24: a message as an argument; has, awake. -/
import Derived.Test.YtoneechcclndaaaMsgC
import Derived.Test.YtoneechcclndaaaLift
import Derived.Test.YtoneechcclndaaaOpen
import Derived.Test.YtoneechcclndaaaGreat04
import Derived.Outline
import Derived.BigQuiet
import Derived.Deep.QuietTactic
import Derived.Deep.RegionWith
import Derived.Deep.RegionHeld3
import Derived.Deep.DrawnRows
import Derived.Deep.LoopGhost
import Derived.Deep.DeepCutAuto
import Derived.Laws.EntriesVeiled
namespace Go.Proofs.Ytoneechcclndaaa.Msg
open Go.RowKit Go.ChangeShapes Go.WideShapes Go.ChangeAt
set_option linter.unusedVariables false
set_option linter.unusedSimpArgs false
attribute [local go_sem ↓] Go.wp_at_zero Go.wp_at_succ
open Go.Shelf Go.Proofs.Ytoneechcclndaaa.Word Go.Proofs.Ytoneechcclndaaa.Wire

/-- a message that came in -/
structure Mr.In (w : World) (r : Mr) : Prop where
  b : BySl w w.heap.size r.A r.v.bs
  n : r.n = r.v.bs.length
  nc : r.n ≤ r.c
  m : r.n ≤ 140737488355328
  kd : r.v.kind ≤ 255
  c1 : -9223372036854775808 ≤ r.v.client
  c2 : r.v.client ≤ 9223372036854775807
  e1 : -9223372036854775808 ≤ r.v.epoch
  e2 : r.v.epoch ≤ 9223372036854775807
  w1 : -9223372036854775808 ≤ r.v.width
  w2 : r.v.width ≤ 9223372036854775807
  s1 : -9223372036854775808 ≤ r.v.seq
  s2 : r.v.seq ≤ 9223372036854775807
theorem Mr.In.ext {w w' : World} {r : Mr} (h : r.In w) (hb : Below w.heap.size w w') : r.In w' := ⟨h.b.ext hb, h.n, h.nc, h.m, h.kd, h.c1, h.c2, h.e1, h.e2, h.w1, h.w2, h.s1, h.s2⟩
theorem Mr.In.rd {w : World} {r : Mr} (h : r.In w) (hl : r.n ≤ 1000000) : r.Rd w := ⟨h.b, h.n, by rw [← h.n]; exact hl, h.kd⟩

theorem open_agg {P : Program} {H : Type} {ench : TypeId × Value → H} {w : World} {base : Nat} {held : Bool} {r0 : Reach} {b0 : Nat} {t : TypeId} {fs : Array Field} {v : Value} {d : DataW H} {p : List MemPlace} (ht : P.underlying t = some (.struct fs)) (hone : Go.Deep.oneCellFields P fs = true) (hC : P.cellsOf t = fs.size)
    (hv : Value.okWide P w r0 b0 t v) (h : DataW.Trod ench P w base (fun _ => true) held t v d p) (hwt : Light P t d) :
    ∃ cs : List Value, v = .agg cs.toArray ∧ cs.length = fs.size ∧ ∃ n, ∀ (j : Nat) (f : Field), fs[j]? = some f → ∃ v y, cs[j]? = some v ∧ DataW.trod ench P w base (fun _ => true) held n f.type [v] = some y ∧ Light P f.type y.1 := by
  obtain ⟨⟨cs⟩, rfl, hsz⟩ := okWide_struct ht hv
  obtain ⟨fuel, hf0⟩ := h
  obtain ⟨hl, n, hf⟩ := struct_cells ht hone hC hf0 hwt
  exact ⟨cs, rfl, hl, n, hf⟩
set_option maxRecDepth 100000 in
theorem open_msg {H : Type} {ench : TypeId × Value → H} {w : World} {base : Nat} {held : Bool} {r0 : Reach} {b0 : Nat} {v : Value} {d : DataW H} {p : List MemPlace} (hv : Value.okWide Try.prog w r0 b0 48 v) (h : DataW.Trod ench Try.prog w base (fun _ => true) held 48 v d p) (hwt : Light Try.prog 48 d) :
    ∃ r : Mr, v = r.agg ∧ r.In w := by
  obtain ⟨cs, rfl, hl, n, hf⟩ := open_agg Try.underlying48 (by kernel_rfl) (by kernel_rfl) hv h hwt
  obtain ⟨v0, y0, e0, t0, w0⟩ := hf 0 _ rfl
  obtain ⟨v1, y1, e1, t1, w1⟩ := hf 1 _ rfl
  obtain ⟨v2, y2, e2, t2, w2⟩ := hf 2 _ rfl
  obtain ⟨v3, y3, e3, t3, w3⟩ := hf 3 _ rfl
  obtain ⟨v4, y4, e4, t4, w4⟩ := hf 4 _ rfl
  obtain ⟨v5, y5, e5, t5, w5⟩ := hf 5 _ rfl
  obtain ⟨v6, y6, e6, t6, w6⟩ := hf 6 _ rfl
  obtain ⟨n0, r0, k0⟩ := opens_int Try.underlying5 _ _ _ t0 w0
  obtain ⟨n1, r1, k1⟩ := opens_int Try.underlying3 _ _ _ t1 w1
  obtain ⟨n2, r2, k2⟩ := opens_int Try.underlying3 _ _ _ t2 w2
  obtain ⟨n3, r3, k3⟩ := opens_int Try.underlying3 _ _ _ t3 w3
  obtain ⟨n4, r4, k4⟩ := opens_int Try.underlying3 _ _ _ t4 w4
  obtain ⟨n5, r5, k5⟩ := opens_bool Try.underlying4 _ _ _ t5 w5
  obtain ⟨A6, l6, c6, r6, hsl6, _, hle6, hmx6, hre6, _⟩ := open_sl_cells (c := 1) Try.underlying25 (by kernel_rfl) (by decide) opens_u8 t6 w6
  rw [show Try.prog.bytesOf 5 = 1 from by kernel_rfl] at hre6
  have hR : reachBytes ≤ 140737488355328 := by decide
  have hb0 : 0 ≤ n0 ∧ n0 ≤ 255 := by simpa [Lit.wf, IntKind.min, IntKind.max, IntKind.signed, IntKind.bits] using k0
  have hb1 : -9223372036854775808 ≤ n1 ∧ n1 ≤ 9223372036854775807 := by simpa [Lit.wf, IntKind.min, IntKind.max, IntKind.signed, IntKind.bits] using k1
  have hb2 : -9223372036854775808 ≤ n2 ∧ n2 ≤ 9223372036854775807 := by simpa [Lit.wf, IntKind.min, IntKind.max, IntKind.signed, IntKind.bits] using k2
  have hb3 : -9223372036854775808 ≤ n3 ∧ n3 ≤ 9223372036854775807 := by simpa [Lit.wf, IntKind.min, IntKind.max, IntKind.signed, IntKind.bits] using k3
  have hb4 : -9223372036854775808 ≤ n4 ∧ n4 ≤ 9223372036854775807 := by simpa [Lit.wf, IntKind.min, IntKind.max, IntKind.signed, IntKind.bits] using k4
  simp only [List.cons.injEq, and_true] at r0 r1 r2 r3 r4 r5 r6
  have hn0 : ((n0.toNat : Nat) : Int) = n0 := Int.toNat_of_nonneg hb0.1
  refine ⟨⟨⟨n0.toNat, n1, n2, n3, n4, n5, l6⟩, A6, l6.length, c6⟩, ?_, ⟨hsl6, rfl, hle6, by simp only; omega, by simp only; omega, hb1.1, hb1.2, hb2.1, hb2.2, hb3.1, hb3.2, hb4.1, hb4.2⟩⟩
  have hl' : cs.length = 7 := hl
  unfold Mr.agg
  match cs, hl' with
  | [c0, c1, c2, c3, c4, c5, c6], _ => simp_all

theorem has_any (r : Mr) (want : List UInt8) (A : Option Addr) (n c : Nat) (w : World) (hr : r.Rd w) (hw : BySl w w.heap.size A want) (hn : Hid (n = want.length)) (hl : want.length ≤ 1000000) (hx : printM r.v = (want, 0)) :
    Calls Try.prog 69 #[r.agg, .slice A n c] w fun e w' => e = .returned (.bool true) ∧ Below w.heap.size w w' := by
  have hp : ∀ W, Below w.heap.size w W → Calls Try.prog 32 #[r.agg] W (RetPut W (want, 0)) := fun W h => by
    have h2 := print_any r W (hr.ext h)
    rwa [hx] at h2
  have HP := Lib.hid hp
  have HW := Lib.hid hw
  clear hp hw
  unfold Mr.agg at HP ⊢
  go_enter Try.func69, Try.ntmps69
  go_wp2_with fail
  refine (HP.out _ (below_1 w _)).mono ?_; rintro e w1 ⟨hb1, A1, n1, c1, rfl, ho1, hf1⟩
  have HB := box_in hb1
  have HO := Lib.hid ho1
  have hn1 : Hid (n1 = want.length) := ho1.len
  clear hb1 ho1 hf1
  go_wp2_with fail
  have hs := same_at want want A1 A n1 n c1 c w1 (HO.out.sl encB_len) (HW.out.ext HB.out.2.1) hn1 hn (by have := hn1.out; unfold maxLen; omega) (by have := hn.out; unfold maxLen; omega)
  rw [Bytes.eqB_self] at hs
  refine hs.mono ?_; rintro e w2 ⟨rfl, k2, rfl⟩
  go_wp2
  go_ret
  exact ⟨rfl, bdrewN HB.out.2.1 k2⟩

theorem has_lit (r : Mr) (want : List UInt8) (w : World) (hr : r.Rd w) (hl : want.length ≤ 1000000) (hx : printM r.v = (want, 0)) :
    Calls Try.prog 69 #[r.agg, .slice (some ⟨w.heap.size, 0, none⟩) want.length want.length] (w.alloc (.cells (want.flatMap encB).toArray 5)) fun e w' => e = .returned (.bool true) ∧ Below (w.alloc (.cells (want.flatMap encB).toArray 5)).heap.size (w.alloc (.cells (want.flatMap encB).toArray 5)) w' :=
  has_any r want _ _ _ _ (hr.ext (below_1 w _)) (lit_list w want 5 encB_len) rfl hl hx
def mS : Mr := ⟨⟨1, 2, 1, 300, 0, false, []⟩, none, 0, 0⟩
def mL : Mr := ⟨⟨2, 0, 128, 0, 0, false, []⟩, none, 0, 0⟩
def mD (g : Nat) : Mr := ⟨⟨4, 1, 2, 0, 3, true, [7, 8]⟩, some ⟨g, 0, none⟩, 2, 2⟩
def mD0 : Mr := ⟨⟨4, 1, 2, 0, 3, true, []⟩, none, 0, 0⟩
def mL6 : Mr := ⟨⟨2, 6, 1, 0, 0, false, []⟩, none, 0, 0⟩
def mL0 : Mr := ⟨⟨2, 0, 0, 0, 0, false, []⟩, none, 0, 0⟩
def mA : Mr := ⟨⟨3, 0, 1, 0, 0, false, []⟩, none, 0, 0⟩
theorem nil_rd (w : World) (m : Ms) (hm : m.bs = []) (hk : m.kind ≤ 255) : (⟨m, none, 0, 0⟩ : Mr).Rd w := ⟨by rw [hm]; exact Sl.nil _ _ _ _ _, by rw [Hid, hm]; rfl, by rw [hm]; decide, hk⟩
theorem pmS : printM mS.v = ([1, 2, 1, 172, 2], 0) := by kernel_rfl
theorem pmL : printM mL.v = ([2, 0, 128, 1], 0) := by kernel_rfl
theorem pmD (g : Nat) : printM (mD g).v = ([4, 1, 2, 3, 1, 2, 7, 8], 0) := by kernel_rfl
theorem may_v (r : Mr) (b : Bool) (w : World) (hb : mayB r.v = b) (hk : r.v.kind ≤ 255) (hn : Hid (r.n = r.v.bs.length)) : Calls Try.prog 35 #[r.agg] w fun e w' => e = .returned (.bool b) ∧ Below w.heap.size w w' := by
  subst hb; exact may_any r w hk hn
theorem up_v (r : Mr) (b : Bool) (w : World) (hb : upM r.v = b) (hk : r.v.kind ≤ 255) (hn : Hid (r.n = r.v.bs.length)) : Calls Try.prog 36 #[r.agg] w fun e w' => e = .returned (.bool b) ∧ Below w.heap.size w w' := by
  subst hb; exact up_any r w hk hn

/-- what awake keeps: the bytes, the two messages -/
structure AW (w W : World) : Prop where
  b : BySl W W.heap.size (some ⟨w.heap.size, 0, none⟩) [7, 8]
  d : Blk W (w.heap.size + 1) 48 #[.int .u8 4, .int .i64 1, .int .i64 2, .int .i64 0, .int .i64 3, .bool true, .slice (some ⟨w.heap.size, 0, none⟩) 2 2]
  z : Blk W (w.heap.size + 1 + 1) 48 #[.int .u8 4, .int .i64 1, .int .i64 2, .int .i64 0, .int .i64 3, .bool true, .slice none 0 0]
  be : Below w.heap.size w W
theorem AW.ext {w W W' : World} (h : AW w W) (hb : Below W.heap.size W W') : AW w W' := ⟨h.b.ext hb, h.d.ext hb, h.z.ext hb, ext_under h.be (Nat.le_refl _) hb⟩
theorem AW.lit {w W W' : World} {o : Obj} (h : AW w W) (hb : Below (W.alloc o).heap.size (W.alloc o) W') : AW w W' := h.ext (two_up (Below.refl _ _) hb)
theorem AW.new (w : World) : AW w (((w.alloc (.cells #[.int .u8 7, .int .u8 8] 5)).alloc (.cells #[.int .u8 4, .int .i64 1, .int .i64 2, .int .i64 0, .int .i64 3, .bool true, .slice (some ⟨w.heap.size, 0, none⟩) 2 2] 48)).alloc (.cells #[.int .u8 4, .int .i64 1, .int .i64 2, .int .i64 0, .int .i64 3, .bool true, .slice none 0 0] 48)) := by
  have h1 := lit_list w [7, 8] 5 encB_len
  have h2 := Blk.new (w.alloc (.cells #[.int .u8 7, .int .u8 8] 5)) 48 #[.int .u8 4, .int .i64 1, .int .i64 2, .int .i64 0, .int .i64 3, .bool true, .slice (some ⟨w.heap.size, 0, none⟩) 2 2]
  have h3 := Blk.new ((w.alloc (.cells #[.int .u8 7, .int .u8 8] 5)).alloc (.cells #[.int .u8 4, .int .i64 1, .int .i64 2, .int .i64 0, .int .i64 3, .bool true, .slice (some ⟨w.heap.size, 0, none⟩) 2 2] 48)) 48 #[.int .u8 4, .int .i64 1, .int .i64 2, .int .i64 0, .int .i64 3, .bool true, .slice none 0 0]
  rw [World.size_alloc] at h2
  rw [World.size_alloc, World.size_alloc] at h3
  exact ⟨(Sl.ext h1 (below_1 _ _)).ext (below_1 _ _), h2.alloc _, h3, (((Below.refl _ _).alloc (Nat.le_refl _) _).alloc (by simp) _).alloc (by simp; omega) _⟩
theorem has_lit' (r : Mr) (want : List UInt8) (w : World) (g : Nat) (hg : w.heap.size = g) (hr : r.Rd w) (hl : want.length ≤ 1000000) (hx : printM r.v = (want, 0)) :
    Calls Try.prog 69 #[r.agg, .slice (some ⟨g, 0, none⟩) want.length want.length] (w.alloc (.cells (want.flatMap encB).toArray 5)) fun e w' => e = .returned (.bool true) ∧ Below (w.alloc (.cells (want.flatMap encB).toArray 5)).heap.size (w.alloc (.cells (want.flatMap encB).toArray 5)) w' := by
  subst hg; exact has_lit r want w hr hl hx
theorem mD_rd {w W : World} (h : AW w W) : (mD w.heap.size).Rd W := ⟨h.b, rfl, (by decide : [7, 8].length ≤ 1000000), (by decide : 4 ≤ 255)⟩

set_option maxHeartbeats 1000000 in
set_option maxRecDepth 100000 in
theorem awake_any (w : World) : Calls Try.prog 38 #[] w fun e w' => e = .returned (.bool true) ∧ Below w.heap.size w w' := by
  have hsz : ((((w.alloc (.cells #[.int .u8 7, .int .u8 8] 5)).alloc (.cells #[.int .u8 4, .int .i64 1, .int .i64 2, .int .i64 0, .int .i64 3, .bool true, .slice (some ⟨w.heap.size, 0, none⟩) 2 2] 48)).alloc (.cells #[.int .u8 4, .int .i64 1, .int .i64 2, .int .i64 0, .int .i64 3, .bool true, .slice none 0 0] 48))).heap.size = w.heap.size + 1 + 1 + 1 := by simp
  have h1 := Lib.hid (AW.new w)
  have HS := Lib.hid hsz
  clear hsz
  go_enter Try.func38, Try.ntmps38
  go_wp2_with fail
  generalize ((w.alloc (.cells #[.int .u8 7, .int .u8 8] 5)).alloc (.cells #[.int .u8 4, .int .i64 1, .int .i64 2, .int .i64 0, .int .i64 3, .bool true, .slice (some ⟨w.heap.size, 0, none⟩) 2 2] 48)).alloc (.cells #[.int .u8 4, .int .i64 1, .int .i64 2, .int .i64 0, .int .i64 3, .bool true, .slice none 0 0] 48) = W1 at *
  refine (has_lit' mS [1, 2, 1, 172, 2] W1 _ HS.out (nil_rd _ _ rfl (by decide)) (by decide) pmS).mono ?_
  rintro e w2 ⟨rfl, hb2⟩
  have H2 := Lib.hid (h1.out.lit hb2)
  clear hb2
  go_wp2_with fail
  refine (has_lit mL [2, 0, 128, 1] w2 (nil_rd _ _ rfl (by decide)) (by decide) pmL).mono ?_
  rintro e w3 ⟨rfl, hb3⟩
  have H3 := Lib.hid (H2.out.lit hb3)
  clear hb3
  have pa := (H3.out.d).cell 0; have pb := (H3.out.d).cell 1; have pc := (H3.out.d).cell 2; have pd := (H3.out.d).cell 3; have pe := (H3.out.d).cell 4; have pf := (H3.out.d).cell 5; have pg := (H3.out.d).cell 6; simp only [List.getElem?_toArray, List.getElem?_cons_zero, List.getElem?_cons_succ] at pa pb pc pd pe pf pg
  go_wp2_with fail
  refine (has_lit (mD w.heap.size) [4, 1, 2, 3, 1, 2, 7, 8] w3 (mD_rd H3.out) (by decide) (pmD _)).mono ?_
  rintro e w4 ⟨rfl, hb4⟩
  have H4 := Lib.hid (H3.out.lit hb4)
  clear hb4
  go_wp2_with fail
  refine (may_v mL6 false w4 (by decide) (by decide) rfl).mono ?_
  rintro e w5 ⟨rfl, hb5⟩
  have H5 := Lib.hid (H4.out.ext hb5)
  clear hb5
  go_wp2_with fail
  refine (may_v mL0 false w5 (by decide) (by decide) rfl).mono ?_
  rintro e w6 ⟨rfl, hb6⟩
  have H6 := Lib.hid (H5.out.ext hb6)
  clear hb6
  have qa := (H6.out.z).cell 0; have qb := (H6.out.z).cell 1; have qc := (H6.out.z).cell 2; have qd := (H6.out.z).cell 3; have qe := (H6.out.z).cell 4; have qf := (H6.out.z).cell 5; have qg := (H6.out.z).cell 6; simp only [List.getElem?_toArray, List.getElem?_cons_zero, List.getElem?_cons_succ] at qa qb qc qd qe qf qg
  go_wp2_with fail
  refine (may_v mD0 false w6 (by decide) (by decide) rfl).mono ?_
  rintro e w7 ⟨rfl, hb7⟩
  have H7 := Lib.hid (H6.out.ext hb7)
  clear hb7
  have ra := (H7.out.d).cell 0; have rb := (H7.out.d).cell 1; have rc := (H7.out.d).cell 2; have rd := (H7.out.d).cell 3; have re := (H7.out.d).cell 4; have rf := (H7.out.d).cell 5; have rg := (H7.out.d).cell 6; simp only [List.getElem?_toArray, List.getElem?_cons_zero, List.getElem?_cons_succ] at ra rb rc rd re rf rg
  go_wp2_with fail
  refine (up_v (mD w.heap.size) false w7 rfl (show 4 ≤ 255 by decide) rfl).mono ?_
  rintro e w8 ⟨rfl, hb8⟩
  have H8 := Lib.hid (H7.out.ext hb8)
  clear hb8
  go_wp2_with fail
  refine (up_v mA true w8 (by decide) (by decide) rfl).mono ?_
  rintro e w9 ⟨rfl, hb9⟩
  have H9 := Lib.hid (H8.out.ext hb9)
  clear hb9
  go_wp2
  go_ret
  exact ⟨rfl, H9.out.be⟩
end Go.Proofs.Ytoneechcclndaaa.Msg
