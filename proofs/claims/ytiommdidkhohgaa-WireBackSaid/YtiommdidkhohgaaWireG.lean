/- wire: plain laws and memory laws for the program's Take. -/
import Derived.Test.YtiommdidkhohgaaWireF
import Derived.Outline
import Derived.BigQuiet
import Derived.Deep.QuietTactic
import Derived.Deep.RegionWith
import Derived.Deep.RegionHeld3
import Derived.Deep.DrawnRows
import Derived.Deep.LoopGhost
import Derived.Deep.DeepCutAuto
import Derived.Laws.EntriesVeiled
namespace Go.Proofs.Ytiommdidkhohgaa.Wire
open Go.RowKit Go.ChangeShapes Go.WideShapes Go.ChangeAt
set_option linter.unusedVariables false
set_option linter.unusedSimpArgs false
attribute [local go_sem ↓] Go.wp_at_zero Go.wp_at_succ
open Go.Shelf Go.Proofs.Ytiommdidkhohgaa.Word

theorem tk_any (k : Kd) (l : List UInt8) (A : Option Addr) (n cap : Nat) (w : World) (hl : BySl w w.heap.size A l) (hn : Hid (n = l.length)) (hc : n ≤ cap) (hm : n ≤ 1000000000000) :
    Calls Try.prog k.take #[.slice A n cap] w (RetTk w (takeK k l)) := by
  cases k with
  | nat => exact natural_any l A n cap w hl hn hc hm
  | int => exact integer_any l A n cap w hl hn hc hm
  | flag => exact flag_any l A n cap w hl hn (by omega)
  | bytes => exact some_any l A n cap w hl hn hc hm
  | row => exact numbers_any l A n cap w hl hn hc hm

theorem vInfo : (Try.prog.info? 34).map (fun i => (i.zero, i.size, i.bytes)) = some (some (.agg #[.int .u64 0, .int .i64 0, .bool false, .slice none 0 0, .slice none 0 0]), 5, 72) := by kernel_rfl

/-- a row of values that may be read and written, in blocks that are not below B -/
structure VOwn (B : Nat) (w : World) (A : Option Addr) (n c : Nat) (rs : List Wr) : Prop where
  own : OwnA w 34 5 Wr.cells (.slice A n c) rs
  ok : ∀ r ∈ rs, r.Ok w
  from' : ∀ r ∈ rs, r.From B
  fr : ∀ k, (Value.slice A n c).ownBlock = some k → B ≤ k

/-- how far Take has come; W: the world behind schema -/
structure TI (l : List UInt8) (ks : List Kd) (B : Nat) (W wr : World) (j d : Nat) (rs : List Wr) (A : Option Addr) (n c : Nat) : Prop where
  eq : takeS ks l = (takeS (ks.drop j) (l.drop d)).map fun (ys, t) => (rs.map Wr.v ++ ys, d + t)
  vo : VOwn B wr A n c rs
  frw : ∀ k, (Value.slice A n c).ownBlock = some k → W.heap.size ≤ k
  be : Below W.heap.size W wr
  le : d ≤ l.length
  len : rs.length = j

/-- what Take leaves -/
def RetTake (w : World) (x : List WV × Nat × Int) (e : Ending) (w' : World) : Prop :=
  Below w.heap.size w w' ∧ ∃ A n c rs, e = .returned (.tuple #[.slice A n c, .int .i64 (x.2.1 : Int), .int .i64 x.2.2]) ∧ rs.map Wr.v = x.1 ∧ VOwn w.heap.size w' A n c rs

theorem VOwn.nil (B : Nat) (w : World) : VOwn B w none 0 0 [] := ⟨OwnA.nil_ _ _ _ _, (fun r h => by cases h), (fun r h => by cases h), fun k h => by cases h⟩

theorem kds_length : ∀ (s : List UInt8) (ks : List Kd), kdsOf s = some ks → ks.length = s.length
  | [], ks, h => by simp only [kdsOf, Option.some.injEq] at h; rw [← h]; rfl
  | x :: s, ks, h => by
    unfold kdsOf at h
    cases hk : kdOf x.toNat with
    | none => rw [hk] at h; cases h
    | some k =>
      rw [hk] at h
      cases hs : kdsOf s with
      | none => rw [hs] at h; cases h
      | some r =>
        rw [hs] at h
        simp only [Option.map_some, Option.some.injEq] at h
        rw [← h, List.length_cons, List.length_cons, kds_length s r hs]

theorem takeL_le : ∀ (m : Nat) (b : List UInt8) (ys : List Nat) (t : Nat), takeL m b = some (ys, t) → t ≤ b.length
  | 0, b, ys, t, h => by simp only [takeL, Option.some.injEq, Prod.mk.injEq] at h; omega
  | m + 1, b, ys, t, h => by
    unfold takeL at h
    cases hg : getW b with
    | none => rw [hg] at h; cases h
    | some x =>
      obtain ⟨x, k⟩ := x
      rw [hg] at h
      simp only at h
      cases hr : takeL m (b.drop k) with
      | none => rw [hr] at h; cases h
      | some y =>
        obtain ⟨y, t'⟩ := y
        rw [hr] at h
        simp only [Option.map_some, Option.some.injEq, Prod.mk.injEq] at h
        have h1 := takeL_le m _ _ _ hr
        have h2 := (get_some hg).2.2.2.1
        rw [List.length_drop] at h1
        omega
theorem takeK_le {k : Kd} {b : List UInt8} {v : WV} {u : Nat} (h : takeK k b = some (v, u)) : 1 ≤ u ∧ u ≤ b.length := by
  cases k with
  | nat =>
    simp only [takeK] at h
    cases hg : getW b with
    | none => rw [hg] at h; cases h
    | some x =>
      obtain ⟨x, k⟩ := x
      rw [hg] at h
      simp only [Option.map_some, Option.some.injEq, Prod.mk.injEq] at h
      have h2 := (get_some hg).2.2.2
      omega
  | int =>
    simp only [takeK] at h
    cases hg : getW b with
    | none => rw [hg] at h; cases h
    | some x =>
      obtain ⟨x, k⟩ := x
      rw [hg] at h
      simp only [Option.map_some, Option.some.injEq, Prod.mk.injEq] at h
      have h2 := (get_some hg).2.2.2
      omega
  | flag =>
    cases b with
    | nil => cases h
    | cons d b =>
      simp only [takeK] at h
      split at h
      · simp only [Option.some.injEq, Prod.mk.injEq] at h
        rw [List.length_cons]; omega
      · cases h
  | bytes =>
    simp only [takeK] at h
    cases hg : getW b with
    | none => rw [hg] at h; cases h
    | some x =>
      obtain ⟨x, k⟩ := x
      rw [hg] at h
      simp only at h
      have h2 := (get_some hg).2.2.2
      split at h
      · simp only [Option.some.injEq, Prod.mk.injEq] at h
        omega
      · cases h
  | row =>
    simp only [takeK] at h
    cases hg : getW b with
    | none => rw [hg] at h; cases h
    | some x =>
      obtain ⟨x, k⟩ := x
      rw [hg] at h
      simp only at h
      have h2 := (get_some hg).2.2.2
      split at h
      · cases hr : takeL x (b.drop k) with
        | none => rw [hr] at h; cases h
        | some y =>
          obtain ⟨y, t'⟩ := y
          rw [hr] at h
          simp only [Option.map_some, Option.some.injEq, Prod.mk.injEq] at h
          have h1 := takeL_le x _ _ _ hr
          rw [List.length_drop] at h1
          omega
      · cases h

/-- a value in a box g, made behind wr -/
structure VBox (wr wx : World) (g : Nat) (r : Wr) : Prop where
  blk : Blk wx g 34 (mkV r)
  ok : r.Ok wx
  from' : r.From wr.heap.size
  be : Below wr.heap.size wr wx
theorem VBox.new {wr w3 : World} {r : Wr} {B : Nat} (hok : r.Ok w3) (hf : r.From B) (hB : wr.heap.size ≤ B) (hb : Below wr.heap.size wr w3) : VBox wr (w3.alloc (.cells (mkV r) 34)) w3.heap.size r :=
  ⟨Blk.new _ _ _, hok.ext ((Below.refl _ _).alloc (Nat.le_refl _) _), ⟨fun k hk => Nat.le_trans hB (hf.1 k hk), fun k hk => Nat.le_trans hB (hf.2 k hk)⟩, hb.alloc hb.size _⟩
theorem VBox.set {wr w3 : World} {r : Wr} {B g : Nat} (hg : Blk w3 g 34 zV) (hok : r.Ok w3) (hf : r.From B) (hB : wr.heap.size ≤ g ∧ g < B) (hb : Below wr.heap.size wr w3) :
    VBox wr (((((w3.setCell ⟨g, 0, none⟩ (.int .u64 (r.v.n : Int))).setCell ⟨g, 1, none⟩ (.int .i64 r.v.i)).setCell ⟨g, 2, none⟩ (.bool r.v.f)).setCell ⟨g, 3, none⟩ (.slice r.bA r.bn r.bc)).setCell ⟨g, 4, none⟩ (.slice r.lA r.ln r.lc)) g r :=
  ⟨blk_five hg _ _ _ _ _, hok.chg (chg_five (Chg.refl (fun k => k = g) w3) rfl _ _ _ _ _) (fun k hk e => by have := hf.1 k hk; omega) (fun k hk e => by have := hf.2 k hk; omega),
    ⟨fun k hk => by have := hf.1 k hk; omega, fun k hk => by have := hf.2 k hk; omega⟩, below_five hb hB.1 _ _ _ _ _⟩

/-- an append to a row of values -/
theorem VOwn.appended {B : Nat} {w w5 : World} {A A' : Option Addr} {n c n' c' : Nat} {rs : List Wr} {r : Wr} {o : Obj} (h : VOwn B w A n c rs) (hr : r.Ok w) (hrf : r.From B) (hB : B ≤ w.heap.size) (hown : OwnA w5 34 5 Wr.cells (.slice A' n' c') (rs ++ [r]))
    (hc : Chg (fun k => (Value.slice A n c).ownBlock = some k) (w.alloc o) w5) (hat : (Value.slice A' n' c').ownBlock = (Value.slice A n c).ownBlock ∨ (Value.slice A' n' c').ownBlock = some (w.alloc o).heap.size) :
    VOwn B w5 A' n' c' (rs ++ [r]) := by
  have hb : Below w.heap.size w (w.alloc o) := (Below.refl _ _).alloc (Nat.le_refl _) _
  have ok5 : ∀ q : Wr, q.Ok w → q.Ok w5 := fun q hq => by
    have hq2 := hq.ext hb
    refine hq2.chg hc (fun k hk hs => ?_) (fun k hk hs => ?_)
    · exact OwnA.apartA (h.own.ext hb) hq2.b (by decide) hs (hq2.b.blk hk)
    · exact OwnA.apartA (h.own.ext hb) hq2.l (by decide) hs (hq2.l.blk hk)
  refine ⟨hown, fun q hq => ?_, fun q hq => ?_, fun k hk => ?_⟩
  · rcases List.mem_append.1 hq with hq | hq
    · exact ok5 q (h.ok q hq)
    · rw [List.mem_singleton] at hq; subst hq; exact ok5 q hr
  · rcases List.mem_append.1 hq with hq | hq
    · exact h.from' q hq
    · rw [List.mem_singleton] at hq; subst hq; exact hrf
  · rcases hat with hat | hat
    · exact h.fr k (hat ▸ hk)
    · rw [hat] at hk; injection hk with hk; rw [World.size_alloc] at hk; omega
theorem VOwn.ext {B : Nat} {w w' : World} {A : Option Addr} {n c : Nat} {rs : List Wr} (h : VOwn B w A n c rs) (hb : Below w.heap.size w w') : VOwn B w' A n c rs := ⟨h.own.ext hb, fun r hr => (h.ok r hr).ext hb, h.from', h.fr⟩

theorem TI.next {l : List UInt8} {ks : List Kd} {B : Nat} {W wr wc w5 : World} {j d u : Nat} {rs : List Wr} {A A' : Option Addr} {n c n' c' g : Nat} {r : Wr} {k : Kd} {v : WV} {o : Obj} (h : TI l ks B W wr j d rs A n c) (hBW : B ≤ W.heap.size) (hx : VBox wr wc g r) (hv : r.v = v)
    (hd : ks.drop j = k :: ks.drop (j + 1)) (hk : takeK k (l.drop d) = some (v, u)) (hown : OwnA w5 34 5 Wr.cells (.slice A' n' c') (rs ++ [r]))
    (hc : Chg (fun k => (Value.slice A n c).ownBlock = some k) (wc.alloc o) w5) (hat : (Value.slice A' n' c').ownBlock = (Value.slice A n c).ownBlock ∨ (Value.slice A' n' c').ownBlock = some (wc.alloc o).heap.size) :
    TI l ks B W w5 (j + 1) (d + u) (rs ++ [r]) A' n' c' := by
  have hle := (takeK_le hk).2
  rw [List.length_drop] at hle
  have hbc : Below W.heap.size W wc := ext_under h.be (Nat.le_refl _) hx.be
  have hbo := hbc.alloc hbc.size o
  have hs := h.be.size
  have hs2 := hx.be.size
  refine ⟨?_, (h.vo.ext hx.be).appended hx.ok ⟨fun k hk => by have := hx.from'.1 k hk; omega, fun k hk => by have := hx.from'.2 k hk; omega⟩ (by omega) hown hc hat, fun k hk => ?_, hbo.trans (hc.below hbo.size fun i hi hs => by have := h.frw _ hs; omega), by have := h.le; omega, by simp [h.len]⟩
  · rw [h.eq, hd, takeS, hk]
    simp only [List.drop_drop, List.map_append, List.map_cons, List.map_nil, hv]
    cases takeS (ks.drop (j + 1)) (l.drop (d + u)) with
    | none => rfl
    | some y => obtain ⟨ys, t⟩ := y; simp [Nat.add_assoc]
  · rcases hat with hat | hat
    · exact h.frw k (hat ▸ hk)
    · rw [hat] at hk; injection hk with hk; have := hbo.size; omega

theorem blk_ext_alloc {W w3 : World} {t : TypeId} {cs : Array Value} {g : Nat} (hb : Below (W.alloc (.cells cs t)).drew.heap.size (W.alloc (.cells cs t)).drew w3) (hg : W.heap.size = g) : Blk w3 g t cs := by
  subst hg
  have h : Blk (W.alloc (.cells cs t)).drew W.heap.size t cs := (Blk.new W t cs).drew
  exact h.ext hb

theorem hb_d (w : World) : Hid (Below w.heap.size w w.drew) := (Below.refl _ _).drew
theorem hb_ad (w : World) (o : Obj) : Hid (Below w.heap.size w (w.alloc o).drew) := ((Below.refl _ _).alloc (Nat.le_refl _) _).drew
theorem hb_aad (w : World) (o o' : Obj) : Hid (Below w.heap.size w ((w.alloc o).alloc o').drew) := (((Below.refl _ _).alloc (Nat.le_refl _) _).alloc (by simp) _).drew
theorem b4_d {w w3 : World} (h : Below w.drew.heap.size w.drew w3) : Below w.heap.size w w3 := (hb_d w).out.trans h
theorem b4_ad {w w3 : World} {o : Obj} (h : Below (w.alloc o).drew.heap.size (w.alloc o).drew w3) : Below w.heap.size w w3 := (hb_ad w o).out.trans (h.mono (by simp))
theorem b4_aad {w w3 : World} {o o' : Obj} (h : Below ((w.alloc o).alloc o').drew.heap.size ((w.alloc o).alloc o').drew w3) : Below w.heap.size w w3 := (hb_aad w o o').out.trans (h.mono (by simp; omega))
theorem blk_1 {w w3 : World} {t : TypeId} {cs : Array Value} (h : Below (w.alloc (.cells cs t)).drew.heap.size (w.alloc (.cells cs t)).drew w3) : Blk w3 w.heap.size t cs := blk_ext_alloc h rfl
theorem blk_2 {w w3 : World} {o : Obj} {t : TypeId} {cs : Array Value} (h : Below ((w.alloc o).alloc (.cells cs t)).drew.heap.size ((w.alloc o).alloc (.cells cs t)).drew w3) : Blk w3 (w.heap.size + 1) t cs := blk_ext_alloc h (by simp)
theorem tk_enters (k : Kd) : ∀ args w, (callFunc k.take args).run Try.prog w = .ok (.enter k.take args) w := by
  cases k with
  | nat => exact enters_of Try.func69 (by kernel_rfl) rfl
  | int => exact enters_of Try.func72 (by kernel_rfl) rfl
  | flag => exact enters_of Try.func74 (by kernel_rfl) rfl
  | bytes => exact enters_of Try.func77 (by kernel_rfl) rfl
  | row => exact enters_of Try.func80 (by kernel_rfl) rfl
end Go.Proofs.Ytiommdidkhohgaa.Wire
