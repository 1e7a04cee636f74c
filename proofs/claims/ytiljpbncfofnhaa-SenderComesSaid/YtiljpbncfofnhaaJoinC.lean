/- chunk: Take where the chunk is taken. -/
import Derived.Test.YtiljpbncfofnhaaJoinB
import Derived.Outline
import Derived.BigQuiet
import Derived.Deep.QuietTactic
import Derived.Deep.RegionWith
import Derived.Deep.RegionHeld3
import Derived.Deep.DrawnRows
import Derived.Deep.LoopGhost
import Derived.Deep.DeepCutAuto
import Derived.Laws.EntriesVeiled
import Derived.Deep.DeepMust
namespace Go.Proofs.Ytiljpbncfofnhaa.JoinC
open Go.RowKit Go.ChangeShapes Go.WideShapes Go.ChangeAt
set_option linter.unusedVariables false
set_option linter.unusedSimpArgs false
attribute [local go_sem ↓] Go.wp_at_zero Go.wp_at_succ
open JoinA JoinB

abbrev Facts (w : World) (g : Nat) (base : Nat) (T : TypeId) (mk : Int → Value → Array Value) (A : Option Addr) (na jc : Nat) (B : Option Addr) (taken : Int) (acc bs : List UInt8) (w1 : World) : Prop :=
  Blk w1 g T (mk (taken + 1) (.slice A na jc)) ∧ Own w1 base 5 1 encB (.slice A na jc) acc ∧ Sl w1 w1.heap.size 1 encB B bs ∧ w.heap.size = w1.heap.size ∧ Chg (fun k => k = g) w w1 ∧
    (∀ k, (Value.slice A na jc).ownBlock = some k → k ≠ g) ∧ acc.length + bs.length ≤ maxLen ∧ (acc.length + bs.length) * 1 ≤ 140737488355328

theorem take_fin {w w1 w2 w3 : World} {g base : Nat} {A B A' : Option Addr} {na jc nb n' cap' : Nat} {taken : Int} {acc bs : List UInt8} {jb : Value} (hna : Hid (na = acc.length)) (hnb : Hid (nb = bs.length)) (hn' : Hid (n' = (acc ++ bs).length))
    (HH : Facts w g base 108 mkJ A na jc B taken acc bs w1) (HO : Own w2 base 5 1 encB (.slice A' n' cap') (acc ++ bs) ∧ w1.grownBy w2 (Value.slice A na jc).ownBlock ∧ ((Value.slice A' n' cap').ownBlock = (Value.slice A na jc).ownBlock ∨ (Value.slice A' n' cap').ownBlock = some w1.heap.size))
    (HX : Blk w3 g 108 ((mkJ (taken + 1) jb).setIfInBounds 2 (.slice A' n' cap')) ∧ Chg (fun k => k = g) w2 w3) (nq : Nat) (hbase : base ≤ w.heap.size) :
    TakePost w g 108 mkJ base (.slice A na jc) taken acc bs true none (.returned (.tuple #[.slice A' n' n', .bool true, .int .i64 0])) ((w3.setCell ⟨g, 2, none⟩ (.slice none 0 0)).drewN nq) := by
  obtain ⟨h1, h2, h3, h4, h5, h6, _, _⟩ := HH
  obtain ⟨o1, o2, o3⟩ := HO
  obtain ⟨x1, x2⟩ := HX
  have hn := hn'.out
  clear hn' hna hnb
  subst hn
  have hg1 : g < w1.heap.size := h1.lt
  have hg' : ∀ k, (Value.slice A' (acc ++ bs).length cap').ownBlock = some k → k ≠ g := fun k hk h => by
    rcases o3 with o3 | o3
    · exact h6 k (o3 ▸ hk) h
    · rw [o3] at hk; injection hk with hk; omega
  have hch : Chg (fun k => k = g ∨ (Value.slice A na jc).ownBlock = some k) w ((w3.setCell ⟨g, 2, none⟩ (.slice none 0 0)).drewN nq) := by
    refine Chg.drewN (Chg.setCell (p := ⟨g, 2, none⟩) ?_ (fun _ => .inl rfl) _) nq
    refine Chg.trans (Chg.trans (T := fun k => (Value.slice A na jc).ownBlock = some k) (h5.mono (fun i _ h => .inl h)) (Chg.of_grown o2 (fun k hk _ => hk)) (fun i _ h => .inr h)) x2 (fun i _ h => .inl h)
  have hown4 := (o1.chg x2 (fun k hk h => hg' k hk h)).chg ((Chg.refl (fun k => k = g) w3).setCell (p := ⟨g, 2, none⟩) (fun _ => rfl) (.slice none 0 0)) (fun k hk h => hg' k hk h)
  refine ⟨A', (acc ++ bs).length, .slice none 0 0, rfl, ?_, Own.nil_ _ _ _ _ _, ?_, ?_, hch, (fun k hk => by cases hk), fun k hk => ⟨?_, ?_, by simp [Value.ownBlock]⟩⟩
  · exact (x1.set_ 2 (.slice none 0 0)).drewN nq
  · obtain ⟨A2, c2, hv, hsl, _⟩ := hown4.sl encB_len
    injection hv with hA _ _
    subst hA
    exact hsl
  · exact CellsAt.of_own (f := fun b : UInt8 => (b.toNat : Int)) hown4
  · have hk' : (Value.slice A' (acc ++ bs).length cap').ownBlock = some k := by
      cases A' with
      | none => cases hk
      | some a => simpa [blockOf, Value.ownBlock] using hk
    rcases o3 with o3 | o3
    · exact .inl (o3 ▸ hk')
    · rw [o3] at hk'; injection hk' with hk'; right; omega
  · have hk' : (Value.slice A' (acc ++ bs).length cap').ownBlock = some k := by
      cases A' with
      | none => cases hk
      | some a => simpa [blockOf, Value.ownBlock] using hk
    exact (o1.lt hk').1

theorem take_fin2 {w w1 w2 : World} {g base : Nat} {A B A' : Option Addr} {na jc nb n' cap' : Nat} {taken : Int} {acc bs : List UInt8} (hna : Hid (na = acc.length)) (hnb : Hid (nb = bs.length)) (hn' : Hid (n' = (acc ++ bs).length))
    (HH : Facts w g base 108 mkJ A na jc B taken acc bs w1) (HO : Own w2 base 5 1 encB (.slice A' n' cap') (acc ++ bs) ∧ w1.grownBy w2 (Value.slice A na jc).ownBlock ∧ ((Value.slice A' n' cap').ownBlock = (Value.slice A na jc).ownBlock ∨ (Value.slice A' n' cap').ownBlock = some w1.heap.size))
    (HX : Blk w2 g 108 (mkJ (taken + 1) (.slice A na jc))) (hbase : base ≤ w.heap.size) :
    TakePost w g 108 mkJ base (.slice A na jc) taken acc bs false none (.returned (.tuple #[.slice none 0 0, .bool false, .int .i64 0])) (w2.setCell ⟨g, 2, none⟩ (.slice A' n' cap')) := by
  obtain ⟨h1, h2, h3, h4, h5, h6, _, _⟩ := HH
  obtain ⟨o1, o2, o3⟩ := HO
  have hg1 : g < w1.heap.size := h1.lt
  have hg' : ∀ k, (Value.slice A' n' cap').ownBlock = some k → k ≠ g := fun k hk h => by
    rcases o3 with o3 | o3
    · exact h6 k (o3 ▸ hk) h
    · rw [o3] at hk; injection hk with hk; omega
  have hch : Chg (fun k => k = g ∨ (Value.slice A na jc).ownBlock = some k) w (w2.setCell ⟨g, 2, none⟩ (.slice A' n' cap')) := by
    refine Chg.setCell (p := ⟨g, 2, none⟩) ?_ (fun _ => .inl rfl) _
    exact Chg.trans (T := fun k => (Value.slice A na jc).ownBlock = some k) (h5.mono (fun i _ h => .inl h)) (Chg.of_grown o2 (fun k hk _ => hk)) (fun i _ h => .inr h)
  refine ⟨none, 0, .slice A' n' cap', rfl, HX.set_ 2 _, o1.chg ((Chg.refl (fun k => k = g) w2).setCell (p := ⟨g, 2, none⟩) (fun _ => rfl) _) (fun k hk h => hg' k hk h), Sl.nil _ _ _ _ _, .inl rfl, hch, (fun k hk => ?_), (fun k hk => by cases hk)⟩
  rcases o3 with o3 | o3
  · exact .inl (o3 ▸ hk)
  · rw [o3] at hk; injection hk with hk; right; omega

set_option maxRecDepth 100000 in
set_option maxHeartbeats 1000000 in
theorem take_ok (w : World) (g : Nat) (base : Nat) (A : Option Addr) (na jc : Nat) (taken : Int) (acc bs : List UInt8) (last : Bool) (B : Option Addr) (nb cap : Nat) (hna : Hid (na = acc.length)) (hnb : Hid (nb = bs.length))
    (ht : 0 ≤ taken) (ht2 : taken ≤ 1000000) (a1 : 1 ≤ nb) (a2 : nb ≤ 48) (a3 : na + nb ≤ 262144) (a4 : nb < 48 → last = true)
    (hb : Blk w g 108 (mkJ taken (.slice A na jc))) (hown : Own w base 5 1 encB (.slice A na jc) acc) (hsl : BySl w w.heap.size B bs) (hbase : base ≤ w.heap.size)
    (hsep : ∀ k, blockOf B = some k → k ≠ g) :
    Calls Try.prog 36 #[.pointer (some ⟨g, 0, none⟩), .int .i64 (taken + 1), .bool last, .slice B nb cap] w
      (TakePost w g 108 mkJ base (.slice A na jc) taken acc bs last none) := by
  have c0 : w.cell? ⟨g, 0, none⟩ = some (.bool true) := hb.cell 0
  have c1 : w.cell? ⟨g, 1, none⟩ = some (.int .i64 taken) := hb.cell 1
  have c2 : w.cell? ⟨g, 2, none⟩ = some (.slice A na jc) := hb.cell 2
  have f1 := hb.free 1
  have f2 := hb.free 2
  have hnone := Lib.hid (none_made g 0 w c0)
  obtain ⟨i0, hi, hz, hz1, hz2⟩ := info_parts byInfo
  have hgA : ∀ k, (Value.slice A na jc).ownBlock = some k → k ≠ g := fun k hk h => by
    subst h
    exact hown.apart hb (by decide) hk
  have hch1 : Chg (fun k => k = g) w (w.setCell ⟨g, 1, none⟩ (.int .i64 (taken + 1))) := (Chg.refl (fun k => k = g) w).setCell (p := ⟨g, 1, none⟩) (fun _ => rfl) _
  have hb1 : Blk (w.setCell ⟨g, 1, none⟩ (.int .i64 (taken + 1))) g 108 (mkJ (taken + 1) (.slice A na jc)) := hb.set_ 1 _
  have hown1 := hown.chg hch1 (fun k hk => hgA k hk)
  have hsl1 := Sl.chg hsl hch1 (fun k hk => hsep k hk)
  have hs1 : w.heap.size = (w.setCell ⟨g, 1, none⟩ (.int .i64 (taken + 1))).heap.size := by simp [World.setCell]
  have d2 : (w.setCell ⟨g, 1, none⟩ (.int .i64 (taken + 1))).cell? ⟨g, 2, none⟩ = some (.slice A na jc) := hb1.cell 2
  have h63 : acc.length + bs.length ≤ maxLen := by rw [← hna.out, ← hnb.out]; unfold maxLen; omega
  have hby : (acc.length + bs.length) * 1 ≤ 140737488355328 := by rw [← hna.out, ← hnb.out]; omega
  have e1 : ((nb : Int) == 0) = false := by simp; omega
  have HH := Lib.hid (And.intro hb1 (And.intro hown1 (And.intro hsl1 (And.intro hs1 (And.intro hch1 (And.intro hgA (And.intro h63 hby)))))))
  clear hb1 hown1 hsl1 hs1 hch1 hgA h63 hby hb hown hsl
  cases last with
  | true =>
    clear a4
    by_cases a5 : nb < 48
    all_goals
      go_enter Try.func36, Try.ntmps36
      go_wp2_with (first | (go_at_call 73; refine (hnone.out).mono ?_; rintro e w' ⟨rfl, rfl⟩) | (at_builtin; refine wpList_append_sl _ rfl _ _ _ rfl base 5 i0 _ 1 1 Try.underlying36 hi hz hz1 hz2 rfl (by decide) encB_len encB_one (.slice A na jc) acc (by rfl) HH.out.2.1 _ B bs nb cap (by rfl) hnb.out HH.out.2.2.1 HH.out.2.2.2.2.2.2.1 HH.out.2.2.2.2.2.2.2 (by rw [← HH.out.2.2.2.1]; exact hbase) ?_; intro v' w2 hown' hgrow hat; obtain ⟨A', n', cap', rfl, hn', hle', hmx'⟩ := hown'.form; have hb2 : Blk w2 g 108 (mkJ (taken + 1) (.slice A na jc)) := HH.out.1.chg (Chg.of_grown (S := fun k => (Value.slice A na jc).ownBlock = some k) hgrow (fun k hk _ => hk)) (fun hk => HH.out.2.2.2.2.2.1 g hk rfl); have g2 : w2.cell? ⟨g, 2, none⟩ = some (.slice A na jc) := hb2.cell 2; have k2 := hb2.free 2; have HB2 := Lib.hid hb2; clear hb2; have HO := Lib.hid (And.intro hown' (And.intro hgrow hat)); clear hown' hgrow hat))
      have hb3 := HB2.out.set_ 2 (.slice A' n' cap')
      have hch3 : Chg (fun k => k = g) w2 (w2.setCell ⟨g, 2, none⟩ (.slice A' n' cap')) := (Chg.refl (fun k => k = g) w2).setCell (p := ⟨g, 2, none⟩) (fun _ => rfl) _
      have HX := Lib.hid (And.intro hb3 hch3)
      have x2 : (w2.setCell ⟨g, 2, none⟩ (.slice A' n' cap')).cell? ⟨g, 2, none⟩ = some (.slice A' n' cap') := hb3.cell 2
      have y2 := hb3.free 2
      clear hb3 hch3 g2 k2 d2 c0 c1 c2 f1 f2
      generalize (w2.setCell ⟨g, 2, none⟩ (.slice A' n' cap')) = w3 at *
      have z1 : (0 : Int) ≤ (n' : Int) := Int.natCast_nonneg _
      have z2 : (n' : Int) ≤ (cap' : Int) := by omega
      go_quiet (fail)
      go_wp2
      go_ret3
      exact take_fin hna hnb hn' HH.out HO.out HX.out nq hbase
  | false =>
    have a5 : ¬ nb < 48 := fun h => by cases a4 h
    clear a4
    go_enter Try.func36, Try.ntmps36
    go_wp2_with (first | (go_at_call 73; refine (hnone.out).mono ?_; rintro e w' ⟨rfl, rfl⟩) | (at_builtin; refine wpList_append_sl _ rfl _ _ _ rfl base 5 i0 _ 1 1 Try.underlying36 hi hz hz1 hz2 rfl (by decide) encB_len encB_one (.slice A na jc) acc (by rfl) HH.out.2.1 _ B bs nb cap (by rfl) hnb.out HH.out.2.2.1 HH.out.2.2.2.2.2.2.1 HH.out.2.2.2.2.2.2.2 (by rw [← HH.out.2.2.2.1]; exact hbase) ?_; intro v' w2 hown' hgrow hat; obtain ⟨A', n', cap', rfl, hn', hle', hmx'⟩ := hown'.form; have hb2 : Blk w2 g 108 (mkJ (taken + 1) (.slice A na jc)) := HH.out.1.chg (Chg.of_grown (S := fun k => (Value.slice A na jc).ownBlock = some k) hgrow (fun k hk _ => hk)) (fun hk => HH.out.2.2.2.2.2.1 g hk rfl); have g2 : w2.cell? ⟨g, 2, none⟩ = some (.slice A na jc) := hb2.cell 2; have k2 := hb2.free 2; have HB2 := Lib.hid hb2; clear hb2; have HO := Lib.hid (And.intro hown' (And.intro hgrow hat)); clear hown' hgrow hat))
    go_ret3
    exact take_fin2 hna hnb hn' HH.out HO.out HB2.out hbase
end Go.Proofs.Ytiljpbncfofnhaa.JoinC
