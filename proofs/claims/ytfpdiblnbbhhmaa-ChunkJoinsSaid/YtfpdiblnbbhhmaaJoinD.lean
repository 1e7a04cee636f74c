/- chunk: what the document's Take does. -/
import Derived.Test.YtfpdiblnbbhhmaaJoinC
import Derived.Test.YtfpdiblnbbhhmaaBytes
import Derived.Outline
import Derived.BigQuiet
import Derived.Deep.QuietTactic
import Derived.Deep.RegionWith
import Derived.Deep.RegionHeld3
import Derived.Deep.DrawnRows
import Derived.Deep.LoopGhost
import Derived.Deep.DeepCutAuto
import Derived.Laws.EntriesVeiled
namespace Go.Proofs.Ytfpdiblnbbhhmaa.JoinD
open Go.RowKit Go.ChangeShapes Go.WideShapes Go.ChangeAt
set_option linter.unusedVariables false
set_option linter.unusedSimpArgs false
attribute [local go_sem ↓] Go.wp_at_zero Go.wp_at_succ
open JoinA JoinB JoinC

def mkK (taken : Int) (jb : Value) : Array Value := #[.int .i64 taken, jb]

theorem rtake_seq (w : World) (g : Nat) (jb b : Value) (taken seq : Int) (last : Bool) (ht : 0 ≤ taken) (ht2 : taken ≤ 1000000) (hb : Blk w g 42 (mkK taken jb)) (h : (seq == taken + 1) = false) :
    Calls Try.prog 17 #[.pointer (some ⟨g, 0, none⟩), .int .i64 seq, .bool last, b] w fun e w' => e = .returned (.tuple #[.slice none 0 0, .bool false, .int .i64 2]) ∧ w = w' := by
  have c1 : w.cell? ⟨g, 0, none⟩ = some (.int .i64 taken) := hb.cell 0
  clear hb
  go_enter Try.func17, Try.ntmps17
  go_wp2
  go_ret3
  exact ⟨rfl, rfl⟩

theorem rtake_size (w : World) (g : Nat) (A B : Option Addr) (na ca nb cb : Nat) (taken : Int) (last : Bool) (ht : 0 ≤ taken) (ht2 : taken ≤ 1000000) (hna : na ≤ 262144) (hnb : nb ≤ maxLen) (hb : Blk w g 42 (mkK taken (.slice A na ca)))
    (h : nb = 0 ∨ 48 < nb ∨ (nb < 48 ∧ last = false) ∨ 262144 < na + nb) :
    Calls Try.prog 17 #[.pointer (some ⟨g, 0, none⟩), .int .i64 (taken + 1), .bool last, .slice B nb cb] w fun e w' => e = .returned (.tuple #[.slice none 0 0, .bool false, .int .i64 230]) ∧ w = w' := by
  unfold maxLen at hnb
  have c1 : w.cell? ⟨g, 0, none⟩ = some (.int .i64 taken) := hb.cell 0
  have c2 : w.cell? ⟨g, 1, none⟩ = some (.slice A na ca) := hb.cell 1
  clear hb
  by_cases a1 : nb = 0
  · subst a1
    clear h
    go_enter Try.func17, Try.ntmps17
    go_wp2
    go_ret3
    exact ⟨rfl, rfl⟩
  · by_cases a2 : 48 < nb
    · clear h
      go_enter Try.func17, Try.ntmps17
      go_wp2
      go_ret3
      exact ⟨rfl, rfl⟩
    · by_cases a3 : nb < 48
      · cases last with
        | false =>
          clear h
          go_enter Try.func17, Try.ntmps17
          go_wp2
          go_ret3
          exact ⟨rfl, rfl⟩
        | true =>
          have a4 : 262144 < na + nb := by rcases h with h | h | h | h <;> first | omega | (cases h.2)
          clear h
          go_enter Try.func17, Try.ntmps17
          go_wp2
          go_ret3
          exact ⟨rfl, rfl⟩
      · have a4 : 262144 < na + nb := by rcases h with h | h | h | h <;> omega
        clear h
        go_enter Try.func17, Try.ntmps17
        go_wp2
        go_ret3
        exact ⟨rfl, rfl⟩

theorem own_ne {w w1 w2 : World} {g base : Nat} {A B A' : Option Addr} {na jc n' cap' : Nat} {taken : Int} {acc bs : List UInt8} {T : TypeId} {mk : Int → Value → Array Value}
    (HH : Facts w g base T mk A na jc B taken acc bs w1) (HO : Own w2 base 5 1 encB (.slice A' n' cap') (acc ++ bs) ∧ w1.grownBy w2 (Value.slice A na jc).ownBlock ∧ ((Value.slice A' n' cap').ownBlock = (Value.slice A na jc).ownBlock ∨ (Value.slice A' n' cap').ownBlock = some w1.heap.size))
    (k : Nat) (hk : (Value.slice A' n' cap').ownBlock = some k) (h : k = g) : False := by
  obtain ⟨h1, h2, h3, h4, h5, h6, _, _⟩ := HH
  obtain ⟨o1, o2, o3⟩ := HO
  have hg1 : g < w1.heap.size := h1.lt
  rcases o3 with o3 | o3
  · exact h6 k (o3 ▸ hk) h
  · rw [o3] at hk; injection hk with hk; omega

theorem rtake_fin2 {w w1 w2 : World} {g base : Nat} {A B A' : Option Addr} {na jc nb n' cap' : Nat} {taken : Int} {acc bs : List UInt8} (hna : Hid (na = acc.length)) (hnb : Hid (nb = bs.length)) (hn' : Hid (n' = (acc ++ bs).length))
    (HH : Facts w g base 42 mkK A na jc B taken acc bs w1) (HO : Own w2 base 5 1 encB (.slice A' n' cap') (acc ++ bs) ∧ w1.grownBy w2 (Value.slice A na jc).ownBlock ∧ ((Value.slice A' n' cap').ownBlock = (Value.slice A na jc).ownBlock ∨ (Value.slice A' n' cap').ownBlock = some w1.heap.size))
    (HX : Blk w2 g 42 (mkK (taken + 1) (.slice A na jc))) (hbase : base ≤ w.heap.size) :
    TakePost w g 42 mkK base (.slice A na jc) taken acc bs false none (.returned (.tuple #[.slice none 0 0, .bool false, .int .i64 0])) (w2.setCell ⟨g, 1, none⟩ (.slice A' n' cap')) := by
  obtain ⟨h1, h2, h3, h4, h5, h6, _, _⟩ := HH
  obtain ⟨o1, o2, o3⟩ := HO
  have hg1 : g < w1.heap.size := h1.lt
  have hg' : ∀ k, (Value.slice A' n' cap').ownBlock = some k → k ≠ g := fun k hk h => by
    rcases o3 with o3 | o3
    · exact h6 k (o3 ▸ hk) h
    · rw [o3] at hk; injection hk with hk; omega
  have hch : Chg (fun k => k = g ∨ (Value.slice A na jc).ownBlock = some k) w (w2.setCell ⟨g, 1, none⟩ (.slice A' n' cap')) := by
    refine Chg.setCell (p := ⟨g, 1, none⟩) ?_ (fun _ => .inl rfl) _
    exact Chg.trans (T := fun k => (Value.slice A na jc).ownBlock = some k) (h5.mono (fun i _ h => .inl h)) (Chg.of_grown o2 (fun k hk _ => hk)) (fun i _ h => .inr h)
  refine ⟨none, 0, .slice A' n' cap', rfl, HX.set_ 1 _, o1.chg ((Chg.refl (fun k => k = g) w2).setCell (p := ⟨g, 1, none⟩) (fun _ => rfl) _) (fun k hk h => hg' k hk h), Sl.nil _ _ _ _ _, .inl rfl, hch, (fun k hk => ?_), (fun k hk => by cases hk)⟩
  rcases o3 with o3 | o3
  · exact .inl (o3 ▸ hk)
  · rw [o3] at hk; injection hk with hk; right; omega

theorem rtake_fin {w w1 w2 w3 w4 : World} {g base : Nat} {A B A' X : Option Addr} {na jc nb n' cap' xc : Nat} {taken : Int} {acc bs : List UInt8} {jb : Value} (hna : Hid (na = acc.length)) (hnb : Hid (nb = bs.length)) (hn' : Hid (n' = (acc ++ bs).length))
    (HH : Facts w g base 42 mkK A na jc B taken acc bs w1) (HO : Own w2 base 5 1 encB (.slice A' n' cap') (acc ++ bs) ∧ w1.grownBy w2 (Value.slice A na jc).ownBlock ∧ ((Value.slice A' n' cap').ownBlock = (Value.slice A na jc).ownBlock ∨ (Value.slice A' n' cap').ownBlock = some w1.heap.size))
    (HX : Blk w3 g 42 ((mkK (taken + 1) jb).setIfInBounds 1 (.slice A' n' cap')) ∧ Chg (fun k => k = g) w2 w3) (hX : Own w4 w3.heap.size 5 1 encB (.slice X n' xc) (acc ++ bs)) (hb4 : Below w3.heap.size w3 w4) (hbase : base ≤ w.heap.size) :
    TakePost w g 42 mkK base (.slice A na jc) taken acc bs true none (.returned (.tuple #[.slice X n' xc, .bool true, .int .i64 0])) (w4.setCell ⟨g, 1, none⟩ (.slice none 0 0)) := by
  obtain ⟨h1, h2, h3, h4, h5, h6, _, _⟩ := HH
  obtain ⟨o1, o2, o3⟩ := HO
  obtain ⟨x1, x2⟩ := HX
  have hn := hn'.out
  clear hn' hna hnb
  subst hn
  have hg1 : g < w1.heap.size := h1.lt
  have hg3 : g < w3.heap.size := x1.lt
  have hws : w.heap.size ≤ w3.heap.size := Nat.le_trans (Nat.le_trans h5.size o2.size) x2.size
  have hch : Chg (fun k => k = g ∨ (Value.slice A na jc).ownBlock = some k) w (w4.setCell ⟨g, 1, none⟩ (.slice none 0 0)) := by
    refine Chg.setCell (p := ⟨g, 1, none⟩) ?_ (fun _ => .inl rfl) _
    refine Chg.trans (T := fun _ => False) (Chg.trans (Chg.trans (T := fun k => (Value.slice A na jc).ownBlock = some k) (h5.mono (fun i _ h => .inl h)) (Chg.of_grown o2 (fun k hk _ => hk)) (fun i _ h => .inr h)) x2 (fun i _ h => .inl h)) (Chg.of_ext hb4) (fun i _ h => h.elim)
  have hXg : ∀ k, (Value.slice X (acc ++ bs).length xc).ownBlock = some k → k ≠ g := fun k hk h => by
    have := (hX.lt hk).1
    omega
  have hown4 := hX.chg ((Chg.refl (fun k => k = g) w4).setCell (p := ⟨g, 1, none⟩) (fun _ => rfl) (.slice none 0 0)) (fun k hk h => hXg k hk h)
  have hblk : ∀ k, blockOf X = some k → (Value.slice X (acc ++ bs).length xc).ownBlock = some k := fun k hk => by
    cases X with
    | none => cases hk
    | some a => simpa [blockOf, Value.ownBlock] using hk
  refine ⟨X, xc, .slice none 0 0, rfl, ?_, Own.nil_ _ _ _ _ _, ?_, ?_, hch, (fun k hk => by cases hk), fun k hk => ⟨?_, ?_, by simp [Value.ownBlock]⟩⟩
  · exact (x1.ext hb4).set_ 1 (.slice none 0 0)
  · obtain ⟨A2, c2, hv, hsl, _⟩ := hown4.sl encB_len
    injection hv with hA _ _
    subst hA
    exact hsl
  · exact CellsAt.of_own (f := fun b : UInt8 => (b.toNat : Int)) hown4
  · right; have := (hX.lt (hblk k hk)).1; omega
  · have := (hX.lt (hblk k hk)).1; omega

set_option maxHeartbeats 1000000 in
theorem rtake_ok (w : World) (g : Nat) (base : Nat) (A : Option Addr) (na jc : Nat) (taken : Int) (acc bs : List UInt8) (last : Bool) (B : Option Addr) (nb cap : Nat) (hna : Hid (na = acc.length)) (hnb : Hid (nb = bs.length))
    (ht : 0 ≤ taken) (ht2 : taken ≤ 1000000) (a1 : 1 ≤ nb) (a2 : nb ≤ 48) (a3 : na + nb ≤ 262144) (a4 : nb < 48 → last = true)
    (hb : Blk w g 42 (mkK taken (.slice A na jc))) (hown : Own w base 5 1 encB (.slice A na jc) acc) (hsl : BySl w w.heap.size B bs) (hbase : base ≤ w.heap.size)
    (hsep : ∀ k, blockOf B = some k → k ≠ g) :
    Calls Try.prog 17 #[.pointer (some ⟨g, 0, none⟩), .int .i64 (taken + 1), .bool last, .slice B nb cap] w
      (TakePost w g 42 mkK base (.slice A na jc) taken acc bs last none) := by
  have c1 : w.cell? ⟨g, 0, none⟩ = some (.int .i64 taken) := hb.cell 0
  have c2 : w.cell? ⟨g, 1, none⟩ = some (.slice A na jc) := hb.cell 1
  have f1 := hb.free 0
  have f2 := hb.free 1
  obtain ⟨i0, hi, hz, hz1, hz2⟩ := info_parts byInfo
  have hgA : ∀ k, (Value.slice A na jc).ownBlock = some k → k ≠ g := fun k hk h => by
    subst h
    exact hown.apart hb (by decide) hk
  have hch1 : Chg (fun k => k = g) w (w.setCell ⟨g, 0, none⟩ (.int .i64 (taken + 1))) := (Chg.refl (fun k => k = g) w).setCell (p := ⟨g, 0, none⟩) (fun _ => rfl) _
  have hb1 : Blk (w.setCell ⟨g, 0, none⟩ (.int .i64 (taken + 1))) g 42 (mkK (taken + 1) (.slice A na jc)) := hb.set_ 0 _
  have hown1 := hown.chg hch1 (fun k hk => hgA k hk)
  have hsl1 := Sl.chg hsl hch1 (fun k hk => hsep k hk)
  have hs1 : w.heap.size = (w.setCell ⟨g, 0, none⟩ (.int .i64 (taken + 1))).heap.size := by simp [World.setCell]
  have d2 : (w.setCell ⟨g, 0, none⟩ (.int .i64 (taken + 1))).cell? ⟨g, 1, none⟩ = some (.slice A na jc) := hb1.cell 1
  have h63 : acc.length + bs.length ≤ maxLen := by rw [← hna.out, ← hnb.out]; unfold maxLen; omega
  have hby : (acc.length + bs.length) * 1 ≤ 140737488355328 := by rw [← hna.out, ← hnb.out]; omega
  have e1 : ((nb : Int) == 0) = false := by simp; omega
  have HH := Lib.hid (And.intro hb1 (And.intro hown1 (And.intro hsl1 (And.intro hs1 (And.intro hch1 (And.intro hgA (And.intro h63 hby)))))))
  clear hb1 hown1 hsl1 hs1 hch1 hgA h63 hby hb hown hsl
  cases last with
  | true =>
    clear a4
    by_cases a5 : nb < 48
    all_goals
      go_enter Try.func17, Try.ntmps17
      go_wp2_with (at_builtin; refine wpList_append_sl _ rfl _ _ _ rfl base 5 i0 _ 1 1 Try.underlying28 hi hz hz1 hz2 rfl (by decide) encB_len encB_one (.slice A na jc) acc (by rfl) HH.out.2.1 _ B bs nb cap (by rfl) hnb.out HH.out.2.2.1 HH.out.2.2.2.2.2.2.1 HH.out.2.2.2.2.2.2.2 (by rw [← HH.out.2.2.2.1]; exact hbase) ?_; intro v' w2 hown' hgrow hat; obtain ⟨A', n', cap', rfl, hn', hle', hmx'⟩ := hown'.form; have hb2 : Blk w2 g 42 (mkK (taken + 1) (.slice A na jc)) := HH.out.1.chg (Chg.of_grown (S := fun k => (Value.slice A na jc).ownBlock = some k) hgrow (fun k hk _ => hk)) (fun hk => HH.out.2.2.2.2.2.1 g hk rfl); have g2 : w2.cell? ⟨g, 1, none⟩ = some (.slice A na jc) := hb2.cell 1; have k2 := hb2.free 1; have HB2 := Lib.hid hb2; clear hb2; have HO := Lib.hid (And.intro hown' (And.intro hgrow hat)); clear hown' hgrow hat)
      have hch3 : Chg (fun k => k = g) w2 (w2.setCell ⟨g, 1, none⟩ (.slice A' n' cap')) := (Chg.refl (fun k => k = g) w2).setCell (p := ⟨g, 1, none⟩) (fun _ => rfl) _
      have hb3 := HB2.out.set_ 1 (.slice A' n' cap')
      have hcl := (HO.out.1.chg hch3 (fun k hk h => own_ne HH.out HO.out k hk h)).sls encB_len
      have HX := Lib.hid (And.intro hb3 hch3)
      clear hb3 hch3 g2 k2 d2 c1 c2 f1 f2
      generalize (w2.setCell ⟨g, 1, none⟩ (.slice A' n' cap')) = w3 at *
      refine (Bytes.copy_any (acc ++ bs) A' n' cap' w3 hcl (by have h := HH.out.2.2.2.2.2.2.2; simp only [List.length_append]; omega) hn').mono ?_
      rintro e w4 ⟨v4, rfl, hX, hb4⟩
      obtain ⟨X, n4, xc, rfl, hn4, _, _⟩ := hX.form
      obtain rfl : n4 = n' := hn4.out.trans hn'.out.symm
      have hb5 := HX.out.1.ext hb4
      have y1 : w4.cell? ⟨g, 1, none⟩ = some (.slice A' n4 cap') := hb5.cell 1
      have y2 := hb5.free 1
      clear hb5
      have HXX := Lib.hid (And.intro hX hb4)
      clear hX hb4 hcl
      go_wp2
      go_ret3
      exact rtake_fin hna hnb hn' HH.out HO.out HX.out HXX.out.1 HXX.out.2 hbase
  | false =>
    have a5 : ¬ nb < 48 := fun h => by cases a4 h
    clear a4
    go_enter Try.func17, Try.ntmps17
    go_wp2_with (at_builtin; refine wpList_append_sl _ rfl _ _ _ rfl base 5 i0 _ 1 1 Try.underlying28 hi hz hz1 hz2 rfl (by decide) encB_len encB_one (.slice A na jc) acc (by rfl) HH.out.2.1 _ B bs nb cap (by rfl) hnb.out HH.out.2.2.1 HH.out.2.2.2.2.2.2.1 HH.out.2.2.2.2.2.2.2 (by rw [← HH.out.2.2.2.1]; exact hbase) ?_; intro v' w2 hown' hgrow hat; obtain ⟨A', n', cap', rfl, hn', hle', hmx'⟩ := hown'.form; have hb2 : Blk w2 g 42 (mkK (taken + 1) (.slice A na jc)) := HH.out.1.chg (Chg.of_grown (S := fun k => (Value.slice A na jc).ownBlock = some k) hgrow (fun k hk _ => hk)) (fun hk => HH.out.2.2.2.2.2.1 g hk rfl); have g2 : w2.cell? ⟨g, 1, none⟩ = some (.slice A na jc) := hb2.cell 1; have k2 := hb2.free 1; have HB2 := Lib.hid hb2; clear hb2; have HO := Lib.hid (And.intro hown' (And.intro hgrow hat)); clear hown' hgrow hat)
    go_ret3
    exact rtake_fin2 hna hnb hn' HH.out HO.out HB2.out hbase

theorem take_all (w : World) (g : Nat) (base : Nat) (A : Option Addr) (na jc : Nat) (taken seq : Int) (acc bs : List UInt8) (last : Bool) (B : Option Addr) (nb cap : Nat) (hna : Hid (na = acc.length)) (hnb : Hid (nb = bs.length))
    (ht : 0 ≤ taken) (ht2 : taken ≤ 1000000) (ha : na ≤ 262144) (hnm : nb ≤ maxLen)
    (hb : Blk w g 31 (mkJ taken (.slice A na jc))) (hown : Own w base 5 1 encB (.slice A na jc) acc) (hsl : BySl w w.heap.size B bs) (hbase : base ≤ w.heap.size)
    (hsep : ∀ k, blockOf B = some k → k ≠ g) :
    Calls Try.prog 13 #[.pointer (some ⟨g, 0, none⟩), .int .i64 seq, .bool last, .slice B nb cap] w
      (TakePost w g 31 mkJ base (.slice A na jc) taken acc bs last (tkErr taken acc bs seq last)) := by
  by_cases h1 : seq = taken + 1
  · by_cases h2 : bs.length = 0 ∨ 48 < bs.length ∨ (bs.length < 48 ∧ last = false) ∨ 262144 < acc.length + bs.length
    · have he : tkErr taken acc bs seq last = some 230 := by rw [tkErr, if_neg (by simp [h1]), if_pos h2]
      rw [he]
      subst h1
      refine (take_size w g A B na jc nb cap taken last ht ht2 ha hnm hb (by rw [hna.out, hnb.out]; exact h2)).mono ?_
      rintro e w' ⟨rfl, rfl⟩
      exact take_err hb hown
    · have he : tkErr taken acc bs seq last = none := by rw [tkErr, if_neg (by simp [h1]), if_neg h2]
      rw [he]
      subst h1
      have e1 := hna.out
      have e2 := hnb.out
      exact take_ok w g base A na jc taken acc bs last B nb cap hna hnb ht ht2 (by omega) (by omega) (by omega) (fun h => by cases last <;> simp_all) hb hown hsl hbase hsep
  · have he : tkErr taken acc bs seq last = some 2 := by rw [tkErr, if_pos h1]
    rw [he]
    refine (take_seq w g _ _ taken seq last ht ht2 hb (by simpa using h1)).mono ?_
    rintro e w' ⟨rfl, rfl⟩
    exact take_err hb hown

theorem rtake_all (w : World) (g : Nat) (base : Nat) (A : Option Addr) (na jc : Nat) (taken seq : Int) (acc bs : List UInt8) (last : Bool) (B : Option Addr) (nb cap : Nat) (hna : Hid (na = acc.length)) (hnb : Hid (nb = bs.length))
    (ht : 0 ≤ taken) (ht2 : taken ≤ 1000000) (ha : na ≤ 262144) (hnm : nb ≤ maxLen)
    (hb : Blk w g 42 (mkK taken (.slice A na jc))) (hown : Own w base 5 1 encB (.slice A na jc) acc) (hsl : BySl w w.heap.size B bs) (hbase : base ≤ w.heap.size)
    (hsep : ∀ k, blockOf B = some k → k ≠ g) :
    Calls Try.prog 17 #[.pointer (some ⟨g, 0, none⟩), .int .i64 seq, .bool last, .slice B nb cap] w
      (TakePost w g 42 mkK base (.slice A na jc) taken acc bs last (tkErr taken acc bs seq last)) := by
  by_cases h1 : seq = taken + 1
  · by_cases h2 : bs.length = 0 ∨ 48 < bs.length ∨ (bs.length < 48 ∧ last = false) ∨ 262144 < acc.length + bs.length
    · have he : tkErr taken acc bs seq last = some 230 := by rw [tkErr, if_neg (by simp [h1]), if_pos h2]
      rw [he]
      subst h1
      refine (rtake_size w g A B na jc nb cap taken last ht ht2 ha hnm hb (by rw [hna.out, hnb.out]; exact h2)).mono ?_
      rintro e w' ⟨rfl, rfl⟩
      exact take_err hb hown
    · have he : tkErr taken acc bs seq last = none := by rw [tkErr, if_neg (by simp [h1]), if_neg h2]
      rw [he]
      subst h1
      have e1 := hna.out
      have e2 := hnb.out
      exact rtake_ok w g base A na jc taken acc bs last B nb cap hna hnb ht ht2 (by omega) (by omega) (by omega) (fun h => by cases last <;> simp_all) hb hown hsl hbase hsep
  · have he : tkErr taken acc bs seq last = some 2 := by rw [tkErr, if_pos h1]
    rw [he]
    refine (rtake_seq w g _ _ taken seq last ht ht2 hb (by simpa using h1)).mono ?_
    rintro e w' ⟨rfl, rfl⟩
    exact take_err hb hown

theorem rtake_any (w : World) (g : Nat) (base : Nat) (A : Option Addr) (na jc : Nat) (taken seq : Int) (acc bs : List UInt8) (last : Bool) (B : Option Addr) (nb cap : Nat) (hna : Hid (na = acc.length)) (hnb : Hid (nb = bs.length))
    (ht : 0 ≤ taken) (ht2 : taken ≤ 1000000) (ha : na ≤ 262144) (hnm : nb ≤ maxLen)
    (hb : Blk w g 42 (mkK taken (.slice A na jc))) (hown : Own w base 5 1 encB (.slice A na jc) acc) (hsl : BySl w w.heap.size B bs) (hbase : base ≤ w.heap.size) (hsep : bs ≠ [] → ∀ k, blockOf B = some k → k ≠ g) :
    Calls Try.prog 17 #[.pointer (some ⟨g, 0, none⟩), .int .i64 seq, .bool last, .slice B nb cap] w
      (TakePost w g 42 mkK base (.slice A na jc) taken acc bs last (tkErr taken acc bs seq last)) := by
  by_cases h1 : seq = taken + 1
  · by_cases h2 : bs = []
    · subst h2
      have he : tkErr taken acc [] seq last = some 230 := by rw [tkErr, if_neg (by simp [h1]), if_pos (.inl rfl)]
      rw [he]
      subst h1
      refine (rtake_size w g A B na jc nb cap taken last ht ht2 ha hnm hb (.inl (by rw [hnb.out]; rfl))).mono ?_
      rintro e w' ⟨rfl, rfl⟩
      exact take_err hb hown
    · exact rtake_all w g base A na jc taken seq acc bs last B nb cap hna hnb ht ht2 ha hnm hb hown hsl hbase (hsep h2)
  · have he : tkErr taken acc bs seq last = some 2 := by rw [tkErr, if_pos h1]
    rw [he]
    refine (rtake_seq w g _ _ taken seq last ht ht2 hb (by simpa using h1)).mono ?_
    rintro e w' ⟨rfl, rfl⟩
    exact take_err hb hown

theorem taken_made (w : World) (g : Nat) (taken : Int) (jb : Value) (hb : Blk w g 31 (mkJ taken jb)) :
    Calls Try.prog 14 #[.pointer (some ⟨g, 0, none⟩)] w fun e w' => e = .returned (.int .i64 taken) ∧ w = w' := by
  have c0 : w.cell? ⟨g, 0, none⟩ = some (.bool true) := hb.cell 0
  have c1 : w.cell? ⟨g, 1, none⟩ = some (.int .i64 taken) := hb.cell 1
  have hnone := Lib.hid (none_made g 0 w c0)
  clear hb
  go_enter Try.func14, Try.ntmps14
  go_wp2_with (go_at_call 31; refine (hnone.out).mono ?_; rintro e w' ⟨rfl, rfl⟩)
  go_ret
  exact ⟨rfl, rfl⟩

theorem new_any (w : World) : Calls Try.prog 15 #[] w fun e w' => e = .returned (.pointer (some ⟨w.heap.size, 0, none⟩)) ∧ w.alloc (.cells (mkJ 0 (.slice none 0 0)) 31) = w' := by
  go_enter Try.func15, Try.ntmps15
  go_wp2
  go_ret
  exact ⟨rfl, rfl⟩
end Go.Proofs.Ytfpdiblnbbhhmaa.JoinD
