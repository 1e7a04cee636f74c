/- sender: what memory holds of a sender; pieces in memory of their own. -/
import Derived.Test.YtiljpbncfofnhaaSendA
import Derived.Test.YtiljpbncfofnhaaClone
import Derived.Outline
import Derived.BigQuiet
import Derived.Deep.QuietTactic
import Derived.Deep.RegionWith
import Derived.Deep.RegionHeld3
import Derived.Deep.DrawnRows
import Derived.Deep.LoopGhost
import Derived.Deep.DeepCutAuto
import Derived.Laws.EntriesVeiled
namespace Go.Proofs.Ytiljpbncfofnhaa.Send
open Go.RowKit Go.ChangeShapes Go.WideShapes Go.ChangeAt
set_option linter.unusedVariables false
set_option linter.unusedSimpArgs false
attribute [local go_sem ↓] Go.wp_at_zero Go.wp_at_succ


/-- a chunk with its number, as it stands in a slice of such -/
structure Pc where
  seq : Int
  last : Bool
  A : Option Addr
  n : Nat
  cap : Nat
  bs : List UInt8
def Pc.cells (p : Pc) : List Value := [.int .i64 p.seq, .bool p.last, .slice p.A p.n p.cap]
def Pc.core (p : Pc) : Int × Bool × List UInt8 := (p.seq, p.last, p.bs)
theorem Pc.cells_len (p : Pc) : p.cells.length = 3 := rfl
theorem Pc.cells_one (p : Pc) : ∀ u ∈ p.cells, u.oneCell' = true := by simp [Pc.cells, Value.oneCell']
/-- its bytes lie in memory of the call's own -/
def Pc.Ok (w : World) (p : Pc) : Prop := OwnA w 5 1 encB (.slice p.A p.n p.cap) p.bs ∧ p.bs.length ≤ 140737488355328
/-- its bytes can be read -/
structure Pc.Rd (w : World) (p : Pc) : Prop where
  sl : BySl w w.heap.size p.A p.bs
  n : Hid (p.n = p.bs.length)
  le : p.bs.length ≤ 140737488355328
  cap : p.n ≤ p.cap
  nil : p.A = none → p.cap = 0
theorem Pc.Ok.rd {w : World} {p : Pc} (h : p.Ok w) : p.Rd w := by
  obtain ⟨A, n, cap, hv, hn, hle, _, hnil⟩ := h.1.form
  injection hv with h1 h2 h3
  subst h1; subst h2; subst h3
  exact ⟨h.1.sl encB_len, hn, h.2, hle, hnil⟩
theorem Pc.Rd.ext {w w' : World} {p : Pc} (h : p.Rd w) (hb : Below w.heap.size w w') : p.Rd w' := ⟨h.sl.ext hb, h.n, h.le, h.cap, h.nil⟩
theorem Pc.Ok.chg {S : Nat → Prop} {w w' : World} {p : Pc} (h : p.Ok w) (hc : Chg S w w') (hn : ∀ k, blockOf p.A = some k → ¬ S k) : p.Ok w' :=
  ⟨h.1.chg hc (fun k hk => hn k (by cases hA : p.A with
    | none => rw [hA] at hk; cases hk
    | some a => rw [hA] at hk; simpa [blockOf, Value.ownBlock] using hk)), h.2⟩
theorem Pc.Ok.ext {w w' : World} {p : Pc} (h : p.Ok w) (hb : Below w.heap.size w w') : p.Ok w' := ⟨h.1.ext hb, h.2⟩
/-- ... and so behind a change of one block of another kind -/
theorem Pc.Ok.set_ {w : World} {p : Pc} (h : p.Ok w) {g : Nat} {t : TypeId} {cs : Array Value} (hg : Blk w g t cs) (ht : 5 ≠ t) (i : Nat) (u : Value) : p.Ok (w.setCell ⟨g, i, none⟩ u) :=
  ⟨h.1.chg ((Chg.refl (fun k => k = g) w).setCell (p := ⟨g, i, none⟩) (fun _ => rfl) u) (fun k hk hs => by subst hs; exact h.1.apart hg ht hk), h.2⟩

/-- a slice of pieces of the call's own, in blocks of F, and their bytes -/
structure PcOwn (F : Nat → Prop) (w : World) (t : TypeId) (v : Value) (ps : List Pc) : Prop where
  own : OwnA w t 3 Pc.cells v ps
  blk : ∀ k, v.ownBlock = some k → F k
  ok : ∀ p ∈ ps, p.Ok w
  fp : ∀ p ∈ ps, ∀ k, blockOf p.A = some k → F k
theorem PcOwn.chg {F S : Nat → Prop} {w w' : World} {t : TypeId} {v : Value} {ps : List Pc} (h : PcOwn F w t v ps) (hc : Chg S w w') (hn : ∀ k, F k → ¬ S k) : PcOwn F w' t v ps :=
  ⟨h.own.chg hc (fun k hk => hn k (h.blk k hk)), h.blk, fun p hp => (h.ok p hp).chg hc (fun k hk => hn k (h.fp p hp k hk)), h.fp⟩
theorem PcOwn.ext {F : Nat → Prop} {w w' : World} {t : TypeId} {v : Value} {ps : List Pc} (h : PcOwn F w t v ps) (hb : Below w.heap.size w w') : PcOwn F w' t v ps :=
  ⟨h.own.ext hb, h.blk, fun p hp => (h.ok p hp).ext hb, h.fp⟩
theorem PcOwn.mono {F F' : Nat → Prop} {w : World} {t : TypeId} {v : Value} {ps : List Pc} (h : PcOwn F w t v ps) (hF : ∀ k, F k → F' k) : PcOwn F' w t v ps :=
  ⟨h.own, fun k hk => hF k (h.blk k hk), h.ok, fun p hp k hk => hF k (h.fp p hp k hk)⟩

theorem map_set_core {ps : List Pc} {j : Nat} {x x' : Pc} (hx : ps[j]? = some x) (h : x'.core = x.core) : (ps.set j x').map Pc.core = ps.map Pc.core := by
  rw [List.map_set, h]
  apply List.ext_getElem?
  intro i
  rw [List.getElem?_set]
  split
  · rename_i hij
    subst hij
    split
    · rw [List.getElem?_map, hx]; rfl
    · rename_i hlt
      rw [List.getElem?_eq_none (by omega)]
  · rfl

/-- the bytes of each lie in a block of their own -/
def Apart (ps : List Pc) : Prop := ∀ (i j : Nat) (x y : Pc), i < j → ps[i]? = some x → ps[j]? = some y → ∀ k, blockOf x.A = some k → blockOf y.A ≠ some k
/-- what stands at each round's head of own -/
structure ownInv (w : World) (v : Value) (ps : List Pc) (j : Nat) (ps' : List Pc) (wr : World) : Prop where
  own : OwnA wr 57 3 Pc.cells v ps'
  fresh : ∀ k, v.ownBlock = some k → w.heap.size ≤ k
  core : ps'.map Pc.core = ps.map Pc.core
  done : ∀ i x, i < j → ps'[i]? = some x → x.Ok wr ∧ ∀ k, blockOf x.A = some k → w.heap.size ≤ k
  rest : ∀ i, j ≤ i → ps'[i]? = ps[i]?
  below : Below w.heap.size w wr
  apart : ∀ (i k : Nat) (x y : Pc), i < k → k < j → ps'[i]? = some x → ps'[k]? = some y → ∀ b, blockOf x.A = some b → blockOf y.A ≠ some b
theorem pcCloneInfo : (Try.prog.info? 57).map (fun i => (i.zero, i.size, i.bytes)) = some (some (.agg #[.int .i64 0, .bool false, .slice none 0 0]), 3, 40) := by kernel_rfl
set_option maxRecDepth 100000 in
theorem pcClone_any (l : List Pc) (A : Option Addr) (n cap : Nat) (w : World) (hl : Sl w w.heap.size 3 Pc.cells A l) (hm : l.length * 40 ≤ 140737488355328) (hn : Hid (n = l.length)) (hA : A = none → cap = 0) (hnc : n ≤ cap) :
    Calls Try.prog 91 #[.slice A n cap] w (RetA w 57 3 Pc.cells l) := by
  obtain ⟨i0, hi, hz, hz1, hz2⟩ := info_parts pcCloneInfo
  have q := fun w a n c n' c' => Lib.run_eql_slice_nil (P := Try.prog) w 40 57 a n c n' c' Try.underlying40
  rcases A with _ | ad
  · have h0 : cap = 0 := hA rfl
    subst h0
    have hn0 : n = 0 := by omega
    subst hn0
    have hl0 : l = [] := List.eq_nil_of_length_eq_zero hn.out.symm
    subst hl0
    go_enter Try.func91, Try.ntmps91
    go_wp2
    go_ret
    exact ⟨_, rfl, OwnA.nil_ _ _ _ _, (fun k hk => by cases hk), Below.refl _ _⟩
  · have hb0 : Below w.heap.size w (w.alloc (.cells #[] 57)) := (Below.refl _ _).alloc (Nat.le_refl _) _
    have H0 := Lib.hid (OwnA.fresh0 w 57 3 Pc.cells)
    have Hl := Lib.hid (Sl.ext hl hb0)
    have a1 : Hid (([] : List Pc).length + l.length ≤ maxLen) := by rw [Hid]; simp [maxLen]; omega
    have a2 : Hid ((([] : List Pc).length + l.length) * 40 ≤ 140737488355328) := by rw [Hid]; simp; omega
    clear hl hm
    go_enter Try.func91, Try.ntmps91
    go_wp2_with (at_builtin; refine wpList_append_a _ rfl _ _ _ rfl 57 i0 _ 3 40 Try.underlying40 hi hz hz1 hz2 rfl (by decide) Pc.cells_len Pc.cells_one _ [] (by rfl) H0.out _ (some ad) l n cap (by rfl) hn.out Hl.out a1.out a2.out ?_; intro v' w' hown' hchg hat)
    go_ret
    exact RetA.made hb0 (fun k hk => by simp [Value.ownBlock] at hk; omega) (hown'.cast_len (by simp)) hchg hat

/-- The call hands back pieces in memory that it made, which are as those. -/
def RetPc (w : World) (t : TypeId) (cs : List (Int × Bool × List UInt8)) (r : Ending) (w' : World) : Prop :=
  ∃ v ps, r = .returned v ∧ PcOwn (fun k => w.heap.size ≤ k) w' t v ps ∧ ps.map Pc.core = cs ∧ Below w.heap.size w w' ∧ Apart ps

theorem ownInv_start {w w1 : World} {v : Value} {ps : List Pc} (hown : OwnA w1 57 3 Pc.cells v ps) (hf : ∀ k, v.ownBlock = some k → w.heap.size ≤ k) (hb : Below w.heap.size w w1) : ownInv w v ps 0 ps w1 :=
  ⟨hown, hf, rfl, fun i x h => by omega, fun _ _ => rfl, hb, fun i k x y _ h => by omega⟩
theorem ownInv_end {w wr : World} {v : Value} {ps ps' : List Pc} {j : Nat} (h : ownInv w v ps j ps' wr) (hj : ps'.length ≤ j) : RetPc w 57 (ps.map Pc.core) (.returned v) wr := by
  refine ⟨v, ps', rfl, ⟨h.own, h.fresh, fun p hp => ?_, fun p hp k hk => ?_⟩, h.core, h.below, fun i k x y hik hx hy => h.apart i k x y hik (by have := (List.getElem?_eq_some_iff.1 hy).1; omega) hx hy⟩
  · obtain ⟨i, hi⟩ := List.getElem?_of_mem hp
    exact (h.done i p (by have := (List.getElem?_eq_some_iff.1 hi).1; omega) hi).1
  · obtain ⟨i, hi⟩ := List.getElem?_of_mem hp
    exact (h.done i p (by have := (List.getElem?_eq_some_iff.1 hi).1; omega) hi).2 k hk

theorem ownInv_step {w wr w2 : World} {g off n cap : Nat} {ps ps' : List Pc} {j : Nat} {x : Pc} {A2 : Option Addr} {n2 c2 : Nat} (h : ownInv w (.slice (some ⟨g, off, none⟩) n cap) ps j ps' wr) (hx : ps'[j]? = some x) (hx2 : x.bs.length ≤ 140737488355328)
    (h2 : OwnA w2 5 1 encB (.slice A2 n2 c2) x.bs) (hf : ∀ k, (Value.slice A2 n2 c2).ownBlock = some k → wr.heap.size ≤ k) (hb : Below wr.heap.size wr w2) :
    ownInv w (.slice (some ⟨g, off, none⟩) n cap) ps (j + 1) (ps'.set j ⟨x.seq, x.last, A2, n2, c2, x.bs⟩) (w2.setCell ⟨g, off + j * 3 + 2, none⟩ (.slice A2 n2 c2)) := by
  have hg : w.heap.size ≤ g := h.fresh g rfl
  obtain ⟨off', cap', cur, hv, hgg, _⟩ := (h.own.ext hb).row (g := g) rfl
  have hblk : Blk w2 g 57 cur := hgg
  have hch : Chg (fun k => k = g) w2 (w2.setCell ⟨g, off + j * 3 + 2, none⟩ (.slice A2 n2 c2)) := (Chg.refl (fun k => k = g) w2).setCell (p := ⟨g, _, none⟩) (fun _ => rfl) _
  have hjl : j < ps'.length := (List.getElem?_eq_some_iff.1 hx).1
  have hst := (h.own.ext hb).store Pc.cells_len (j := 2) (x' := ⟨x.seq, x.last, A2, n2, c2, x.bs⟩) (u := .slice A2 n2 c2) hx (by omega) (by simp [Pc.cells])
  refine ⟨hst, h.fresh, (map_set_core (x' := ⟨x.seq, x.last, A2, n2, c2, x.bs⟩) hx rfl).trans h.core, fun i y hi hy => ?_, fun i hi => ?_, ?_, fun i k x1 y1 hik hk hx1 hy1 b hb1 hb2 => ?_⟩
  · rw [List.getElem?_set] at hy
    split at hy
    · rename_i hij
      subst hij
      injection hy with hy
      subst hy
      refine ⟨Pc.Ok.set_ (p := ⟨x.seq, x.last, A2, n2, c2, x.bs⟩) ⟨h2, hx2⟩ hblk (by decide) _ _, fun k hk => ?_⟩
      have h3 := hf k (h2.blk hk)
      have h4 := h.below.size
      omega
    · have hd := h.done i y (by omega) hy
      exact ⟨Pc.Ok.set_ (hd.1.ext hb) hblk (by decide) _ _, hd.2⟩
  · rw [List.getElem?_set, if_neg (by omega)]
    exact h.rest i (by omega)
  · exact ((h.below.trans (hb.mono h.below.size))).setCell (by simpa using hg) _
  · rw [List.getElem?_set, if_neg (by omega)] at hx1
    have hd := h.done i x1 (by omega) hx1
    have ho : ∀ (A : Option Addr) (n c : Nat), blockOf A = some b → (Value.slice A n c).ownBlock = some b := fun A n c hk => by cases A <;> simp_all [blockOf, Value.ownBlock]
    have h4 := hd.1.1.lt (ho _ _ _ hb1)
    by_cases hkj : k = j
    · subst hkj
      rw [List.getElem?_set, if_pos rfl, if_pos hjl] at hy1
      injection hy1 with hy1
      subst hy1
      have h3 := hf b (ho _ _ _ hb2)
      omega
    · rw [List.getElem?_set, if_neg (by omega)] at hy1
      exact h.apart i k x1 y1 hik (by omega) hx1 hy1 b hb1 hb2

set_option maxHeartbeats 1000000 in
theorem own_any (ps : List Pc) (A : Option Addr) (n cap : Nat) (w : World) (hl : Sl w w.heap.size 3 Pc.cells A ps) (hr : ∀ p ∈ ps, p.Rd w) (hm : ps.length * 40 ≤ 140737488355328) (hn : Hid (n = ps.length)) (hA : A = none → cap = 0) (hnc : n ≤ cap) :
    Calls Try.prog 66 #[.slice A n cap] w (RetPc w 57 (ps.map Pc.core)) := by
  have HC := Lib.hid (pcClone_any ps A n cap w hl hm hn hA hnc)
  have hnn := hn.out
  have Hnn := Lib.hid hnn
  have hmm : n * 40 ≤ 140737488355328 := by rw [hnn]; exact hm
  clear hl hnn
  go_enter Try.func66, Try.ntmps66
  go_wp2_with fail
  refine (HC.out).mono ?_; rintro e w1 ⟨v, rfl, hown, hfr, hb1⟩
  obtain ⟨A1, n1, cap1, rfl, hn1, hle1, hmx1, hnil1⟩ := hown.form
  have e1 : n1 = n := hn1.out.trans Hnn.out.symm
  subst e1
  have HI := Lib.hid (ownInv_start hown hfr hb1)
  clear hown hfr hb1 HC
  have hm63 : n1 ≤ 9223372036854775807 := by omega
  go_wp2_with fail
  go_loopg [9] n1 (fun g v wr => ∃ (j : Nat) (ps' : List Pc), n1 ≤ j + g ∧ j ≤ n1 ∧ v = .int .i64 j ∧ ownInv w (.slice A1 n1 cap1) ps j ps' wr)
  case atStart => exact ⟨0, ps, by omega, by omega, rfl, HI.out⟩
  case round =>
    obtain ⟨j, ps', hg, hj, rfl, hI⟩ := hrel
    have hlen : ps'.length = n1 := by
      have := congrArg List.length hI.core
      simp only [List.length_map] at this
      rw [this, Hnn.out]
    by_cases hlt : j < n1
    · obtain ⟨x, hx⟩ : ∃ x, ps'[j]? = some x := ⟨_, List.getElem?_eq_getElem (i := j) (by omega)⟩
      have hxr : x.Rd wr := (hr x (List.mem_of_getElem? ((hI.rest j (Nat.le_refl _)).symm.trans hx))).ext hI.below
      obtain ⟨b, off, rfl, hbb, hcell⟩ := (hI.own.sl Pc.cells_len).at_ hx
      have c2 := hcell 2 _ rfl
      obtain ⟨off', cap', cur, hv, hgg, _⟩ := hI.own.row (g := b) rfl
      have f2 : wr.frozen? ⟨b, off + j * 3 + 2, none⟩ = false := frozen_of_row wr b _ cur _ hgg
      have HB := Lib.hid (bytesClone_any x.bs x.A x.n x.cap wr hxr.sl (by have := hxr.le; omega) hxr.n hxr.nil hxr.cap)
      have hx2 := hxr.le
      have b1 : (0 : Int) ≤ (j : Int) := Int.natCast_nonneg _
      have b2 : (j : Int) < (n1 : Int) := by omega
      have HH := Lib.hid (And.intro hI (And.intro hx hlen))
      clear hI hx hlen hcell hv hgg hxr
      go_wp2_with fail
      refine (HB.out).mono ?_; rintro e w2 ⟨v2, rfl, hown2, hfr2, hb2⟩
      obtain ⟨A2, n2, cap2, rfl, hn2, _⟩ := hown2.form
      have c2' := (hb2.cell (p := ⟨b, off + j * 3 + 2, none⟩) hbb).trans c2
      have f2' := (hb2.frozen (p := ⟨b, off + j * 3 + 2, none⟩) hbb).trans f2
      have HO := Lib.hid (And.intro hown2 (And.intro hfr2 hb2))
      clear hown2 hfr2 hb2 c2 f2 HB
      go_wp2
      go_roundg (gk - 1)
      case measure => omega
      case rel => exact ⟨j + 1, _, by omega, by omega, by go_num, ownInv_step HH.out.1 HH.out.2.1 hx2 HO.out.1 HO.out.2.1 HO.out.2.2⟩
    · have hE := Lib.hid (ownInv_end hI (by omega))
      clear hI
      go_wp2
      go_ret
      exact hE.out
end Go.Proofs.Ytiljpbncfofnhaa.Send
