/- wire: the program's kinds, the search among them.
wire: the program's schema.
wire: plain laws and memory laws for the program's Take.
wire: the program's Take.
wire: the document's take (windowpaneref04), but for rows of numbers. -/
import Derived.Test.YtoneechcclndaaaWa
import Derived.Outline
import Derived.BigQuiet
import Derived.Deep.QuietTactic
import Derived.Deep.RegionWith
import Derived.Deep.RegionHeld3
import Derived.Deep.DrawnRows
import Derived.Deep.LoopGhost
import Derived.Deep.DeepCutAuto
import Derived.Laws.EntriesVeiled
import Derived.Laws.IdiomStrings
namespace Go.Proofs.Ytoneechcclndaaa.Wire
open Go.RowKit Go.ChangeShapes Go.WideShapes Go.ChangeAt
set_option linter.unusedVariables false
set_option linter.unusedSimpArgs false
attribute [local go_sem ↓] Go.wp_at_zero Go.wp_at_succ
open Go.Shelf Go.Proofs.Ytoneechcclndaaa.Word

def fnV (f : Nat) : Value := .func (.func f) #[] #[]
def Kd.put : Kd → Nat
  | .nat => 95
  | .int => 98
  | .flag => 101
  | .bytes => 103
  | .row => 106
def Kd.take : Kd → Nat
  | .nat => 97
  | .int => 100
  | .flag => 102
  | .bytes => 105
  | .row => 108
def Kd.cells (k : Kd) : List Value := [.int .u8 (k.byte : Int), fnV k.put, fnV k.take]
theorem Kd.cells_len (k : Kd) : k.cells.length = 3 := rfl
theorem Kd.cells_one (k : Kd) : ∀ u ∈ k.cells, u.oneCell' = true := by simp [Kd.cells, Value.oneCell', fnV]
def allK : List Kd := [.nat, .int, .flag, .bytes, .row]
def Kd.agg (k : Kd) : Value := .agg #[.int .u8 (k.byte : Int), fnV k.put, fnV k.take]
def allV : Array Value := #[.int .u8 110, fnV 95, fnV 97, .int .u8 105, fnV 98, fnV 100, .int .u8 102, fnV 101, fnV 102, .int .u8 98, fnV 103, fnV 105, .int .u8 108, fnV 106, fnV 108]

theorem kinds_any (w : World) : Calls Try.prog 81 #[] w fun e w' => e = .returned (.agg allV) ∧ Below w.heap.size w w' := by
  go_enter Try.func81, Try.ntmps81
  go_wp2
  refine bodyPost_ret (v := .agg allV) ?_ rfl ⟨rfl, (by repeat (first | exact Below.refl _ _ | assumption | refine Below.drew ?_ | refine bdrewN ?_ _ | refine Below.alloc ?_ (by simp; try omega) _ | refine Below.setCell ?_ (by simp; try omega) _))⟩
  simp [results, Try.results81, go_sem, allV, fnV]

theorem Kd.at_ {w : World} {B : Nat} {A : Option Addr} {ks : List Kd} (h : Sl w B 3 Kd.cells A ks) {j : Nat} {k : Kd} (hx : ks[j]? = some k) :
    ∃ b off, A = some ⟨b, off, none⟩ ∧ b < B ∧ w.cell? ⟨b, off + j * 3, none⟩ = some (.int .u8 (k.byte : Int)) ∧ w.cell? ⟨b, off + j * 3 + 1, none⟩ = some (fnV k.put) ∧ w.cell? ⟨b, off + j * 3 + 2, none⟩ = some (fnV k.take) := by
  obtain ⟨b, off, hA, hb, hc⟩ := h.at_ hx
  exact ⟨b, off, hA, hb, hc 0 _ rfl, hc 1 _ rfl, hc 2 _ rfl⟩

theorem isk_any (k : Kd) (x : UInt8) (b : Nat) (w : World) (hb : w.cell? ⟨b, 0, none⟩ = some (.int .u8 (x.toNat : Int))) :
    Calls Try.prog 83 #[k.agg, .pointer (some ⟨b, 0, none⟩)] w fun e w' => e = .returned (.bool (k.byte == x.toNat)) ∧ Below w.heap.size w w' := by
  have hlt : b < w.heap.size := World.block_lt_of_cell? w ⟨b, 0, none⟩ hb
  have hne : b ≠ w.heap.size := by omega
  have h1 : ∀ o, (w.alloc o).cell? ⟨b, 0, none⟩ = some (.int .u8 (x.toNat : Int)) := fun o => (World.cell?_alloc_lt w o ⟨b, 0, none⟩ hlt).trans hb
  have h2 : ((k.byte : Int) == (x.toNat : Int)) = (k.byte == x.toNat) := by rw [Bool.eq_iff_iff]; simp; omega
  unfold Kd.agg fnV
  generalize k.byte = y at *
  have H2 := Lib.hid h2
  clear h2
  go_enter Try.func83, Try.ntmps83
  go_wp2
  go_ret
  exact ⟨ret_bool H2.out, (by repeat (first | exact Below.refl _ _ | assumption | refine Below.drew ?_ | refine bdrewN ?_ _ | refine Below.alloc ?_ (by simp; try omega) _ | refine Below.setCell ?_ (by simp; try omega) _))⟩

/-- where the letter stands among kinds -/
def kixF (x : Nat) : List Kd → Nat → Int
  | [], _ => -1
  | k :: ks, j => if k.byte = x then (j : Int) else kixF x ks (j + 1)
theorem kindIx_any (x : UInt8) (ks : List Kd) (A : Option Addr) (n cap b : Nat) (w : World) (hl : Sl w w.heap.size 3 Kd.cells A ks) (hn : Hid (n = ks.length)) (hm : n ≤ 1000000) (hb : w.cell? ⟨b, 0, none⟩ = some (.int .u8 (x.toNat : Int))) :
    Calls Try.prog 82 #[.slice A n cap, .func (.func 83) #[] #[.pointer (some ⟨b, 0, none⟩)]] w fun e w' => e = .returned (.int .i64 (kixF x.toNat ks 0)) ∧ Below w.heap.size w w' := by
  have HH := Lib.hid (And.intro hl hb)
  clear hl hb
  go_enter Try.func82, Try.ntmps82
  go_wp2
  go_loopg [8] n (fun g vj wr => ∃ j : Nat, vj = .int .i64 (j : Int) ∧ n ≤ j + g ∧ j ≤ n ∧ Hid (kixF x.toNat ks 0 = kixF x.toNat (ks.drop j) j) ∧ Hid (Below w.heap.size w wr))
  case atStart => exact ⟨0, rfl, by omega, by omega, rfl, Below.refl _ _⟩
  case round =>
    obtain ⟨j, rfl, hg, hjn, hj, hB⟩ := hrel
    by_cases hlt : j < n
    · have hx : ks[j]? = some ks[j] := List.getElem?_eq_getElem (by rw [← hn.out]; omega)
      have Hd := Lib.hid (List.drop_eq_getElem_cons (show j < ks.length by rw [← hn.out]; omega))
      have hl2 := (HH.out.1).ext hB.out
      obtain ⟨bb, off, rfl, hbb, c0, c1, c2⟩ := Kd.at_ hl2 hx
      have hb2 : wr.cell? ⟨b, 0, none⟩ = some (.int .u8 (x.toNat : Int)) := (hB.out.cell (World.block_lt_of_cell? w ⟨b, 0, none⟩ HH.out.2)).trans HH.out.2
      have HB2 := Lib.hid hb2
      generalize ks[j] = k at *
      have b0 : (0 : Int) ≤ (j : Int) := Int.natCast_nonneg _
      have b1 : (j : Int) < (n : Int) := by omega
      clear hx hb2 hl2
      unfold fnV at c1 c2
      by_cases hk : k.byte = x.toNat
      · have hc := isk_any k x b wr HB2.out
        rw [show (k.byte == x.toNat) = true from by simpa using hk] at hc
        unfold Kd.agg fnV at hc
        have HC := Lib.hid hc
        have HF : Hid (kixF x.toNat ks 0 = (j : Int)) := by rw [Hid, hj.out, Hd.out, kixF, if_pos hk]
        clear hc hk
        go_wp2_with (go_at_call 83; refine HC.out.mono ?_; rintro e w' ⟨rfl, hb'⟩)
        go_ret
        exact ⟨ret_k HF.out.symm, ext_under hB.out (Nat.le_refl _) hb'⟩
      · have hc := isk_any k x b wr HB2.out
        rw [show (k.byte == x.toNat) = false from by simpa using hk] at hc
        unfold Kd.agg fnV at hc
        have HC := Lib.hid hc
        have HF : Hid (kixF x.toNat ks 0 = kixF x.toNat (ks.drop (j + 1)) (j + 1)) := by rw [Hid, hj.out, Hd.out, kixF, if_neg hk]
        clear hc hk
        go_wp2_with (go_at_call 83; refine HC.out.mono ?_; rintro e w' ⟨rfl, hb'⟩)
        go_roundg (gk - 1)
        case measure => omega
        case rel => exact ⟨j + 1, by go_num, by omega, by omega, HF.out, ext_under hB.out (Nat.le_refl _) hb'⟩
    · have e : Hid (kixF x.toNat ks 0 = -1) := by rw [Hid, hj.out, List.drop_of_length_le (by rw [← hn.out]; omega)]; rfl
      have b1 : ¬ (j : Int) < (n : Int) := by omega
      go_wp2
      go_ret
      exact ⟨ret_k e.out.symm, hB.out⟩
end Go.Proofs.Ytoneechcclndaaa.Wire

namespace Go.Proofs.Ytoneechcclndaaa.Wire
open Go.RowKit Go.ChangeShapes Go.WideShapes Go.ChangeAt
set_option linter.unusedVariables false
set_option linter.unusedSimpArgs false
attribute [local go_sem ↓] Go.wp_at_zero Go.wp_at_succ
open Go.Shelf Go.Proofs.Ytoneechcclndaaa.Word

/-- what schema leaves -/
def RetSc (w : World) (x : Option (List Kd)) (e : Ending) (w' : World) : Prop :=
  Below w.heap.size w w' ∧ match x with
    | none => e = .returned (.tuple #[.slice none 0 0, .bool false])
    | some ks => ∃ v, e = .returned (.tuple #[v, .bool true]) ∧ OwnA w' 88 3 Kd.cells v ks ∧ ∀ k, v.ownBlock = some k → w.heap.size ≤ k

/-- a literal of one element -/
theorem lit_one {α : Type} {enc : α → List Value} {c : Nat} (w : World) (x : α) (t : TypeId) (hx : (enc x).length = c) : Sl (w.alloc (.cells (enc x).toArray t)) (w.alloc (.cells (enc x).toArray t)).heap.size c enc (some ⟨w.heap.size, 0, none⟩) [x] := by
  intro _
  refine ⟨w.heap.size, 0, rfl, by simp, fun k y hy j v hv => ?_⟩
  have hk : k = 0 := by
    rcases k with _ | k
    · rfl
    · simp at hy
  subst hk
  simp only [List.getElem?_cons_zero, Option.some.injEq] at hy
  subst hy
  rw [(Blk.new w t _).cell]
  simpa using hv

theorem size_toList (s : ByteArray) : s.size = s.data.toList.length := rfl
theorem conv_bytes (s : ByteArray) (W : World) : ∃ cap W', (convert 9 25 (.string s)).run Try.prog W = .ok (.slice (some ⟨W.heap.size, 0, none⟩) s.size cap) W' ∧ BySl W' W'.heap.size (some ⟨W.heap.size, 0, none⟩) s.data.toList ∧ Below W.heap.size W W' := by
  refine ⟨_, _, run_bytes_of_string W 9 25 5 s Try.underlying9 Try.underlying25 Try.underlying5, ?_, ((Below.refl _ _).drew).alloc (Nat.le_refl _) _⟩
  intro _
  refine ⟨W.heap.size, 0, rfl, by simp, fun k x hx j v hv => ?_⟩
  have hj : j = 0 := by
    rcases j with _ | j
    · rfl
    · simp [encB] at hv
  subst hj
  simp only [encB, List.getElem?_cons_zero, Option.some.injEq] at hv
  subst hv
  have hk := (List.getElem?_eq_some_iff.1 hx).1
  unfold World.cell?
  have hh : ∀ (V : World) (o : Obj), (V.alloc o).heap[V.heap.size]? = some o := fun V o => heap_alloc_new V o
  have h1 := hh W.drew (.cells (bytesRow s (grownCap W s.size 0 5)) 5 ((bytesRow s (grownCap W s.size 0 5)).size, (bytesRow s (grownCap W s.size 0 5)).size + 1))
  have h2 : W.drew.heap.size = W.heap.size := rfl
  rw [h2] at h1
  simp only [h1]
  have h3 : (bytesRow s (grownCap W s.size 0 5))[0 + k * 1 + 0]? = some (.int .u8 (x.toNat : Int)) := by
    unfold bytesRow
    rw [show 0 + k * 1 + 0 = k from by omega, Array.getElem?_append_left (by simpa using hk)]
    rw [Array.getElem?_map]
    have : s.data[k]? = some x := by simpa using hx
    rw [this]; rfl
  first | exact h3 | simpa using h3

theorem kInfo : (Try.prog.info? 88).map (fun i => (i.zero, i.size, i.bytes)) = some (some (.agg #[.int .u8 0, .nilFunc, .nilFunc]), 3, 24) := by kernel_rfl
def Kd.idx : Kd → Nat
  | .nat => 0
  | .int => 1
  | .flag => 2
  | .bytes => 3
  | .row => 4
theorem Kd.idx_at (k : Kd) : allK[k.idx]? = some k := by cases k <;> rfl
theorem Kd.idx_lt (k : Kd) : k.idx < 5 := by cases k <;> decide
theorem kix_none {x : Nat} (h : kdOf x = none) : kixF x allK 0 = -1 := by
  unfold kdOf at h
  split at h; · cases h
  split at h; · cases h
  split at h; · cases h
  split at h; · cases h
  split at h; · cases h
  simp only [allK, kixF]
  rw [if_neg (by show ¬ (110 = x); omega), if_neg (by show ¬ (105 = x); omega), if_neg (by show ¬ (102 = x); omega), if_neg (by show ¬ (98 = x); omega), if_neg (by show ¬ (108 = x); omega)]
theorem kix_some {x : Nat} {k : Kd} (h : kdOf x = some k) : kixF x allK 0 = (k.idx : Int) := by
  unfold kdOf at h
  split at h; · cases h; subst x; rfl
  split at h; · cases h; subst x; rfl
  split at h; · cases h; subst x; rfl
  split at h; · cases h; subst x; rfl
  split at h; · cases h; subst x; rfl
  cases h
theorem allV_sl {w : World} {b : Nat} (h : Blk w b 122 allV) : Sl w w.heap.size 3 Kd.cells (some ⟨b, 0, none⟩) allK := by
  intro _
  refine ⟨b, 0, rfl, h.lt, fun k x hx j v hv => ?_⟩
  rw [h.cell]
  have hk : k < 5 := (List.getElem?_eq_some_iff.1 hx).1
  have hj : j < 3 := by rw [← Kd.cells_len x]; exact (List.getElem?_eq_some_iff.1 hv).1
  have key : ∀ (k : Fin 5) (j : Fin 3), allV[0 + k.val * 3 + j.val]? = (allK[k.val]?.bind fun x => x.cells[j.val]?) := by
    intro k j
    match k, j with
    | 0, 0 => rfl
    | 0, 1 => rfl
    | 0, 2 => rfl
    | 1, 0 => rfl
    | 1, 1 => rfl
    | 1, 2 => rfl
    | 2, 0 => rfl
    | 2, 1 => rfl
    | 2, 2 => rfl
    | 3, 0 => rfl
    | 3, 1 => rfl
    | 3, 2 => rfl
    | 4, 0 => rfl
    | 4, 1 => rfl
    | 4, 2 => rfl
  rw [key ⟨k, hk⟩ ⟨j, hj⟩, hx]
  exact hv

/-- how far schema has come; b4: the block of all kinds, W: the world ahead of the loop -/
structure SI (s : List UInt8) (W wr : World) (j : Nat) (ks : List Kd) (A : Option Addr) (n c : Nat) : Prop where
  eq : kdsOf s = (kdsOf (s.drop j)).map (ks ++ ·)
  own : OwnA wr 88 3 Kd.cells (.slice A n c) ks
  fr : ∀ k, (Value.slice A n c).ownBlock = some k → W.heap.size ≤ k
  be : Below W.heap.size W wr
  len : ks.length = j
  lim : j = 0 ∨ s.length ≤ 64
theorem SI.up {s : List UInt8} {W wr w4 : World} {j : Nat} {ks : List Kd} {A : Option Addr} {n c : Nat} {o : Obj} (h : SI s W wr j ks A n c) (hb : Below (wr.alloc o).heap.size (wr.alloc o) w4) : Below wr.heap.size wr w4 :=
  ((Below.refl _ wr).alloc (Nat.le_refl _) o).trans (hb.mono (by simp))
theorem SI.out {s : List UInt8} {w W wr w4 : World} {j : Nat} {ks : List Kd} {A : Option Addr} {n c : Nat} {o : Obj} (h : SI s W wr j ks A n c) (hw : Below w.heap.size w W) (hb : Below (wr.alloc o).heap.size (wr.alloc o) w4) : Below w.heap.size w w4 :=
  (hw.trans (h.be.mono hw.size)).trans ((h.up hb).mono (Nat.le_trans hw.size h.be.size))
theorem kds_bad {s : List UInt8} {j : Nat} {ks : List Kd} {x : UInt8} (h : kdsOf s = (kdsOf (s.drop j)).map (ks ++ ·)) (hd : s.drop j = x :: s.drop (j + 1)) (hx : kdOf x.toNat = none) : schemaP s = none := by
  unfold schemaP
  split
  · rw [h, hd, kdsOf, hx]; rfl
  · rfl
theorem kds_next {s : List UInt8} {j : Nat} {ks : List Kd} {x : UInt8} {k : Kd} (h : kdsOf s = (kdsOf (s.drop j)).map (ks ++ ·)) (hd : s.drop j = x :: s.drop (j + 1)) (hx : kdOf x.toNat = some k) : kdsOf s = (kdsOf (s.drop (j + 1))).map ((ks ++ [k]) ++ ·) := by
  rw [h, hd, kdsOf, hx]
  cases kdsOf (s.drop (j + 1)) with
  | none => rfl
  | some r => simp

theorem SI.next {s : List UInt8} {W wr w4 w5 : World} {j : Nat} {ks : List Kd} {A A' : Option Addr} {n c n' c' : Nat} {o : Obj} {x : UInt8} {k : Kd} (h : SI s W wr j ks A n c) (hb : Below wr.heap.size wr w4) (hown : OwnA w5 88 3 Kd.cells (.slice A' n' c') (ks ++ [k]))
    (hc : Chg (fun k => (Value.slice A n c).ownBlock = some k) (w4.alloc o) w5) (hat : (Value.slice A' n' c').ownBlock = (Value.slice A n c).ownBlock ∨ (Value.slice A' n' c').ownBlock = some (w4.alloc o).heap.size)
    (hk : kdOf x.toNat = some k) (hd : s.drop j = x :: s.drop (j + 1)) (h64 : s.length ≤ 64) : SI s W w5 (j + 1) (ks ++ [k]) A' n' c' := by
  have h1 : Below W.heap.size W w4 := ext_under h.be (Nat.le_refl _) (hb.mono (Nat.le_refl _))
  have h2 := h1.alloc h1.size o
  refine ⟨kds_next h.eq hd hk, hown, fun k hk => ?_, h2.trans (hc.below h2.size fun i hi hs => by have := h.fr _ hs; omega), by simp [h.len], .inr h64⟩
  rcases hat with hat | hat
  · exact h.fr k (hat ▸ hk)
  · rw [hat] at hk; injection hk with hk; have := h2.size; omega

set_option maxHeartbeats 4000000 in
set_option maxRecDepth 100000 in
theorem schema_any (s : ByteArray) (w : World) (hs : s.data.toList.length ≤ 1000000) : Calls Try.prog 52 #[.string s] w (RetSc w (schemaP s.data.toList)) := by
  obtain ⟨i0, hi, hz, hz1, hz2⟩ := info_parts kInfo
  obtain ⟨l, hl⟩ : ∃ l, l = s.data.toList := ⟨_, rfl⟩
  rw [← hl] at hs ⊢
  go_enter Try.func52, Try.ntmps52
  go_wp2_with (go_at_call 81; refine (kinds_any _).mono ?_; rintro e w1 ⟨rfl, hb⟩; obtain ⟨cap, W, hcv, hsl, hb2⟩ := conv_bytes s (w1.alloc (.cells allV 122)); have HW : Hid (Blk W w1.heap.size 122 allV ∧ Below w.heap.size w W) := ⟨(Blk.new w1 _ allV).ext hb2, ext_under (hb.alloc hb.size _) (Nat.le_refl _) hb2⟩; rw [World.size_alloc] at hcv hsl; rw [← hl] at hsl; have HS := Lib.hid hsl; clear hb hb2 hsl; simp only [allV, fnV] at hcv ⊢)
  have hsz : Hid (s.size = l.length) := by rw [hl]; rfl
  obtain ⟨n, hn⟩ : ∃ n, n = s.size := ⟨_, rfl⟩
  rw [← hn] at hsz
  clear hl
  have hnl : n ≤ 1000000 := by rw [hsz.out]; exact hs
  clear hcv
  go_loopg [5, 13] n (fun gk vo vj wr => ∃ (j : Nat) (ks : List Kd) (A2 : Option Addr) (n2 c2 : Nat), vj = .int .i64 (j : Int) ∧ vo = .slice A2 n2 c2 ∧ n ≤ j + gk ∧ j ≤ n ∧ Hid (SI l W wr j ks A2 n2 c2))
  case atStart =>
    refine ⟨0, [], none, 0, 0, rfl, rfl, by omega, by omega, ⟨?_, OwnA.nil_ _ _ _ _, (fun k hk => by cases hk), Below.refl _ _, rfl, .inl rfl⟩⟩
    rw [List.drop_zero]
    cases kdsOf l <;> simp
  case round =>
    obtain ⟨j, ks, A2, n2, c2, rfl, rfl, hgk, hj, hSI⟩ := hrel
    by_cases hjn : j < n
    · have hx : l[j]? = some l[j] := List.getElem?_eq_getElem (by rw [← hsz.out]; exact hjn)
      obtain ⟨bb, off, hA, hbb, c0⟩ := BySl.at_ (HS.out.ext hSI.out.be) hx
      cases hA
      rw [Nat.zero_add] at c0
      have HD := Lib.hid (List.drop_eq_getElem_cons (show j < l.length by rw [← hsz.out]; exact hjn))
      generalize l[j] = x at *
      have b0 : (0 : Int) ≤ (j : Int) := Int.natCast_nonneg _
      have b1 : (j : Int) < (n : Int) := by omega
      have hAl := Lib.hid (allV_sl (HW.out.1.ext hSI.out.be))
      have hix : ∀ (w3 : World) (o : Obj), Hid (o = .cells #[.int .u8 (x.toNat : Int)] 5) → Calls Try.prog 82 #[.slice (some ⟨w1.heap.size, 0, none⟩) 5 5, .func (.func 83) #[] #[.pointer (some ⟨wr.heap.size, 0, none⟩)]] (wr.alloc o) fun e w' => e = .returned (.int .i64 (kixF x.toNat allK 0)) ∧ Below (wr.alloc o).heap.size (wr.alloc o) w' := fun w3 o ho => by
        rw [ho.out]
        exact kindIx_any x allK (some ⟨w1.heap.size, 0, none⟩) 5 5 wr.heap.size _ (hAl.out.ext ((Below.refl _ _).alloc (Nat.le_refl _) _)) rfl (by decide) ((Blk.new wr _ _).cell 0)
      clear hx
      cases hk : kdOf x.toNat with
      | none =>
        rw [kix_none hk] at hix
        have ht : Hid (schemaP l = none) := kds_bad hSI.out.eq HD.out hk
        clear hk
        go_wp2_with (go_at_call 82; refine (hix wr _ rfl).mono ?_; rintro e w4 ⟨rfl, hb4⟩)
        refine bodyPost_ret (v := .tuple #[.slice none 0 0, .bool false]) (by simp [results, Try.results52, go_sem]) rfl ⟨hSI.out.out HW.out.2 hb4, by rw [ht.out]⟩
      | some k =>
        rw [kix_some hk] at hix
        by_cases h64 : n ≤ 64
        · have d1 : decide ((64 : Int) < (n : Int)) = false := decide_eq_false (by omega)
          have hq := Lib.hid (And.intro k.idx_at k.idx_lt)
          have hat4 : ∀ W4, Hid (Below wr.heap.size wr W4) → Hid (W4.cell? ⟨w1.heap.size, k.idx * 3, none⟩ = some (.int .u8 (k.byte : Int)) ∧ W4.cell? ⟨w1.heap.size, k.idx * 3 + 1, none⟩ = some (fnV k.put) ∧ W4.cell? ⟨w1.heap.size, k.idx * 3 + 2, none⟩ = some (fnV k.take)) := fun W4 h4 => by
            obtain ⟨b5, o5, h5, _, e0, e1, e2⟩ := Kd.at_ (hAl.out.ext h4.out) hq.out.1
            cases h5
            simp only [Nat.zero_add] at e0 e1 e2
            exact ⟨e0, e1, e2⟩
          have q1 : ¬ ((k.idx : Int) < 0) := by omega
          have q0 : (0 : Int) ≤ (k.idx : Int) := by omega
          have q2 : (k.idx : Int) < 5 := by have := k.idx_lt; omega
          have hkd := Lib.hid hk
          have hln := Lib.hid hSI.out.len
          have h1 : Hid (ks.length + [k].length ≤ maxLen) := by rw [Hid, hln.out]; simp [maxLen]; omega
          have h2 : Hid ((ks.length + [k].length) * 24 ≤ 140737488355328) := by rw [Hid, hln.out]; simp; omega
          generalize k.idx = q at *
          clear hk hAl hq
          go_wp2_with (first | (go_at_call 82; refine (hix wr _ rfl).mono ?_; rintro e w4 ⟨rfl, hb4⟩; have hbw : Hid (Below wr.heap.size wr w4) := hSI.out.up hb4; have hc4 := hat4 w4 hbw; obtain ⟨e0, e1, e2⟩ := hc4.out; unfold fnV at e1 e2; clear hb4 hc4) | (at_builtin; refine wpList_append_a _ rfl _ _ _ rfl 88 i0 _ 3 24 Try.underlying80 hi hz hz1 hz2 rfl (by decide) Kd.cells_len Kd.cells_one _ ks (by rfl) ((hSI.out.own.ext hbw.out).alloc _) _ (some ⟨w4.heap.size, 0, none⟩) [k] 1 1 (by rfl) rfl (lit_one w4 k 88 rfl) h1.out h2.out ?_; intro v' w' hown' hchg hat; obtain ⟨A3, n3, c3', rfl, hn3, hle3, hmx3, hnil3⟩ := hown'.form; have HA := Lib.hid (And.intro hown' (And.intro hchg hat)); clear hown' hchg hat))
          go_roundg (gk - 1)
          case measure => omega
          case rel => exact ⟨j + 1, ks ++ [k], A3, n3, c3', by go_num, rfl, by omega, by omega, hSI.out.next hbw.out HA.out.1 HA.out.2.1 HA.out.2.2 hkd.out HD.out (by rw [← hsz.out]; exact h64)⟩
        · have d1 : decide ((64 : Int) < (n : Int)) = true := decide_eq_true (by omega)
          have ht : Hid (schemaP l = none) := by unfold Hid schemaP; rw [if_neg (by rw [← hsz.out]; exact h64)]
          have q1 : ¬ ((k.idx : Int) < 0) := by omega
          generalize k.idx = q at *
          clear hk
          go_wp2_with (go_at_call 82; refine (hix wr _ rfl).mono ?_; rintro e w4 ⟨rfl, hb4⟩)
          refine bodyPost_ret (v := .tuple #[.slice none 0 0, .bool false]) (by simp [results, Try.results52, go_sem]) rfl ⟨hSI.out.out HW.out.2 hb4, by rw [ht.out]⟩
    · have ht : Hid (schemaP l = some ks) := by
        have h1 := hSI.out.eq
        have h2 := hSI.out.lim
        have h3 := hsz.out
        unfold Hid schemaP
        rw [if_pos (by omega), h1, List.drop_of_length_le (by omega), kdsOf]
        simp
      have b1 : ¬ (j : Int) < (n : Int) := by omega
      go_wp2
      refine bodyPost_ret (v := .tuple #[.slice A2 n2 c2, .bool true]) (by simp [results, Try.results52, go_sem]) rfl ⟨HW.out.2.trans (hSI.out.be.mono HW.out.2.size), ?_⟩
      rw [ht.out]
      exact ⟨_, rfl, hSI.out.own, fun k hk => Nat.le_trans HW.out.2.size (hSI.out.fr k hk)⟩
end Go.Proofs.Ytoneechcclndaaa.Wire

namespace Go.Proofs.Ytoneechcclndaaa.Wire
open Go.RowKit Go.ChangeShapes Go.WideShapes Go.ChangeAt
set_option linter.unusedVariables false
set_option linter.unusedSimpArgs false
attribute [local go_sem ↓] Go.wp_at_zero Go.wp_at_succ
open Go.Shelf Go.Proofs.Ytoneechcclndaaa.Word

theorem tk_any (k : Kd) (l : List UInt8) (A : Option Addr) (n cap : Nat) (w : World) (hl : BySl w w.heap.size A l) (hn : Hid (n = l.length)) (hc : n ≤ cap) (hm : n ≤ 1000000000000) :
    Calls Try.prog k.take #[.slice A n cap] w (RetTk w (takeK k l)) := by
  cases k with
  | nat => exact natural_any l A n cap w hl hn hc hm
  | int => exact integer_any l A n cap w hl hn hc hm
  | flag => exact flag_any l A n cap w hl hn (by omega)
  | bytes => exact some_any l A n cap w hl hn hc hm
  | row => exact numbers_any l A n cap w hl hn hc hm

theorem vInfo : (Try.prog.info? 38).map (fun i => (i.zero, i.size, i.bytes)) = some (some (.agg #[.int .u64 0, .int .i64 0, .bool false, .slice none 0 0, .slice none 0 0]), 5, 72) := by kernel_rfl

/-- a row of values that may be read and written, in blocks that are not below B -/
structure VOwn (B : Nat) (w : World) (A : Option Addr) (n c : Nat) (rs : List Wr) : Prop where
  own : OwnA w 38 5 Wr.cells (.slice A n c) rs
  ok : ∀ r ∈ rs, r.Ok w
  from' : ∀ r ∈ rs, r.From B
  fr : ∀ k, (Value.slice A n c).ownBlock = some k → B ≤ k

/-- how far Take has come; W: the world behind schema -/
structure TI (l : List UInt8) (ks : List Kd) (B : Nat) (W wr : World) (j d : Nat) (rs : List Wr) (A : Option Addr) (n c : Nat) : Prop where
  eq : takeS ks l = (takeS (ks.drop j) (l.drop d)).map fun (ys, t) => (rs.map Wr.v ++ ys, d + t)
  vo : VOwn B wr A n c rs
  frw : ∀ k, (Value.slice A n c).ownBlock = some k → W.heap.size ≤ k
  be : Below W.heap.size W wr
  le : d ≤ l.length
  len : rs.length = j

/-- what Take leaves -/
def RetTake (w : World) (x : List WV × Nat × Int) (e : Ending) (w' : World) : Prop :=
  Below w.heap.size w w' ∧ ∃ A n c rs, e = .returned (.tuple #[.slice A n c, .int .i64 (x.2.1 : Int), .int .i64 x.2.2]) ∧ rs.map Wr.v = x.1 ∧ VOwn w.heap.size w' A n c rs

theorem VOwn.nil (B : Nat) (w : World) : VOwn B w none 0 0 [] := ⟨OwnA.nil_ _ _ _ _, (fun r h => by cases h), (fun r h => by cases h), fun k h => by cases h⟩

theorem kds_length : ∀ (s : List UInt8) (ks : List Kd), kdsOf s = some ks → ks.length = s.length
  | [], ks, h => by simp only [kdsOf, Option.some.injEq] at h; rw [← h]; rfl
  | x :: s, ks, h => by
    unfold kdsOf at h
    cases hk : kdOf x.toNat with
    | none => rw [hk] at h; cases h
    | some k =>
      rw [hk] at h
      cases hs : kdsOf s with
      | none => rw [hs] at h; cases h
      | some r =>
        rw [hs] at h
        simp only [Option.map_some, Option.some.injEq] at h
        rw [← h, List.length_cons, List.length_cons, kds_length s r hs]

theorem takeL_le : ∀ (m : Nat) (b : List UInt8) (ys : List Nat) (t : Nat), takeL m b = some (ys, t) → t ≤ b.length
  | 0, b, ys, t, h => by simp only [takeL, Option.some.injEq, Prod.mk.injEq] at h; omega
  | m + 1, b, ys, t, h => by
    unfold takeL at h
    cases hg : getW b with
    | none => rw [hg] at h; cases h
    | some x =>
      obtain ⟨x, k⟩ := x
      rw [hg] at h
      simp only at h
      cases hr : takeL m (b.drop k) with
      | none => rw [hr] at h; cases h
      | some y =>
        obtain ⟨y, t'⟩ := y
        rw [hr] at h
        simp only [Option.map_some, Option.some.injEq, Prod.mk.injEq] at h
        have h1 := takeL_le m _ _ _ hr
        have h2 := (get_some hg).2.2.2.1
        rw [List.length_drop] at h1
        omega
theorem takeK_le {k : Kd} {b : List UInt8} {v : WV} {u : Nat} (h : takeK k b = some (v, u)) : 1 ≤ u ∧ u ≤ b.length := by
  cases k with
  | nat =>
    simp only [takeK] at h
    cases hg : getW b with
    | none => rw [hg] at h; cases h
    | some x =>
      obtain ⟨x, k⟩ := x
      rw [hg] at h
      simp only [Option.map_some, Option.some.injEq, Prod.mk.injEq] at h
      have h2 := (get_some hg).2.2.2
      omega
  | int =>
    simp only [takeK] at h
    cases hg : getW b with
    | none => rw [hg] at h; cases h
    | some x =>
      obtain ⟨x, k⟩ := x
      rw [hg] at h
      simp only [Option.map_some, Option.some.injEq, Prod.mk.injEq] at h
      have h2 := (get_some hg).2.2.2
      omega
  | flag =>
    cases b with
    | nil => cases h
    | cons d b =>
      simp only [takeK] at h
      split at h
      · simp only [Option.some.injEq, Prod.mk.injEq] at h
        rw [List.length_cons]; omega
      · cases h
  | bytes =>
    simp only [takeK] at h
    cases hg : getW b with
    | none => rw [hg] at h; cases h
    | some x =>
      obtain ⟨x, k⟩ := x
      rw [hg] at h
      simp only at h
      have h2 := (get_some hg).2.2.2
      split at h
      · simp only [Option.some.injEq, Prod.mk.injEq] at h
        omega
      · cases h
  | row =>
    simp only [takeK] at h
    cases hg : getW b with
    | none => rw [hg] at h; cases h
    | some x =>
      obtain ⟨x, k⟩ := x
      rw [hg] at h
      simp only at h
      have h2 := (get_some hg).2.2.2
      split at h
      · cases hr : takeL x (b.drop k) with
        | none => rw [hr] at h; cases h
        | some y =>
          obtain ⟨y, t'⟩ := y
          rw [hr] at h
          simp only [Option.map_some, Option.some.injEq, Prod.mk.injEq] at h
          have h1 := takeL_le x _ _ _ hr
          rw [List.length_drop] at h1
          omega
      · cases h

/-- a value in a box g, made behind wr -/
structure VBox (wr wx : World) (g : Nat) (r : Wr) : Prop where
  blk : Blk wx g 38 (mkV r)
  ok : r.Ok wx
  from' : r.From wr.heap.size
  be : Below wr.heap.size wr wx
theorem VBox.new {wr w3 : World} {r : Wr} {B : Nat} (hok : r.Ok w3) (hf : r.From B) (hB : wr.heap.size ≤ B) (hb : Below wr.heap.size wr w3) : VBox wr (w3.alloc (.cells (mkV r) 38)) w3.heap.size r :=
  ⟨Blk.new _ _ _, hok.ext ((Below.refl _ _).alloc (Nat.le_refl _) _), ⟨fun k hk => Nat.le_trans hB (hf.1 k hk), fun k hk => Nat.le_trans hB (hf.2 k hk)⟩, hb.alloc hb.size _⟩
theorem VBox.set {wr w3 : World} {r : Wr} {B g : Nat} (hg : Blk w3 g 38 zV) (hok : r.Ok w3) (hf : r.From B) (hB : wr.heap.size ≤ g ∧ g < B) (hb : Below wr.heap.size wr w3) :
    VBox wr (((((w3.setCell ⟨g, 0, none⟩ (.int .u64 (r.v.n : Int))).setCell ⟨g, 1, none⟩ (.int .i64 r.v.i)).setCell ⟨g, 2, none⟩ (.bool r.v.f)).setCell ⟨g, 3, none⟩ (.slice r.bA r.bn r.bc)).setCell ⟨g, 4, none⟩ (.slice r.lA r.ln r.lc)) g r :=
  ⟨blk_five hg _ _ _ _ _, hok.chg (chg_five (Chg.refl (fun k => k = g) w3) rfl _ _ _ _ _) (fun k hk e => by have := hf.1 k hk; omega) (fun k hk e => by have := hf.2 k hk; omega),
    ⟨fun k hk => by have := hf.1 k hk; omega, fun k hk => by have := hf.2 k hk; omega⟩, below_five hb hB.1 _ _ _ _ _⟩

/-- an append to a row of values -/
theorem VOwn.appended {B : Nat} {w w5 : World} {A A' : Option Addr} {n c n' c' : Nat} {rs : List Wr} {r : Wr} {o : Obj} (h : VOwn B w A n c rs) (hr : r.Ok w) (hrf : r.From B) (hB : B ≤ w.heap.size) (hown : OwnA w5 38 5 Wr.cells (.slice A' n' c') (rs ++ [r]))
    (hc : Chg (fun k => (Value.slice A n c).ownBlock = some k) (w.alloc o) w5) (hat : (Value.slice A' n' c').ownBlock = (Value.slice A n c).ownBlock ∨ (Value.slice A' n' c').ownBlock = some (w.alloc o).heap.size) :
    VOwn B w5 A' n' c' (rs ++ [r]) := by
  have hb : Below w.heap.size w (w.alloc o) := (Below.refl _ _).alloc (Nat.le_refl _) _
  have ok5 : ∀ q : Wr, q.Ok w → q.Ok w5 := fun q hq => by
    have hq2 := hq.ext hb
    refine hq2.chg hc (fun k hk hs => ?_) (fun k hk hs => ?_)
    · exact OwnA.apartA (h.own.ext hb) hq2.b (by decide) hs (hq2.b.blk hk)
    · exact OwnA.apartA (h.own.ext hb) hq2.l (by decide) hs (hq2.l.blk hk)
  refine ⟨hown, fun q hq => ?_, fun q hq => ?_, fun k hk => ?_⟩
  · rcases List.mem_append.1 hq with hq | hq
    · exact ok5 q (h.ok q hq)
    · rw [List.mem_singleton] at hq; subst hq; exact ok5 q hr
  · rcases List.mem_append.1 hq with hq | hq
    · exact h.from' q hq
    · rw [List.mem_singleton] at hq; subst hq; exact hrf
  · rcases hat with hat | hat
    · exact h.fr k (hat ▸ hk)
    · rw [hat] at hk; injection hk with hk; rw [World.size_alloc] at hk; omega
theorem VOwn.ext {B : Nat} {w w' : World} {A : Option Addr} {n c : Nat} {rs : List Wr} (h : VOwn B w A n c rs) (hb : Below w.heap.size w w') : VOwn B w' A n c rs := ⟨h.own.ext hb, fun r hr => (h.ok r hr).ext hb, h.from', h.fr⟩

theorem TI.next {l : List UInt8} {ks : List Kd} {B : Nat} {W wr wc w5 : World} {j d u : Nat} {rs : List Wr} {A A' : Option Addr} {n c n' c' g : Nat} {r : Wr} {k : Kd} {v : WV} {o : Obj} (h : TI l ks B W wr j d rs A n c) (hBW : B ≤ W.heap.size) (hx : VBox wr wc g r) (hv : r.v = v)
    (hd : ks.drop j = k :: ks.drop (j + 1)) (hk : takeK k (l.drop d) = some (v, u)) (hown : OwnA w5 38 5 Wr.cells (.slice A' n' c') (rs ++ [r]))
    (hc : Chg (fun k => (Value.slice A n c).ownBlock = some k) (wc.alloc o) w5) (hat : (Value.slice A' n' c').ownBlock = (Value.slice A n c).ownBlock ∨ (Value.slice A' n' c').ownBlock = some (wc.alloc o).heap.size) :
    TI l ks B W w5 (j + 1) (d + u) (rs ++ [r]) A' n' c' := by
  have hle := (takeK_le hk).2
  rw [List.length_drop] at hle
  have hbc : Below W.heap.size W wc := ext_under h.be (Nat.le_refl _) hx.be
  have hbo := hbc.alloc hbc.size o
  have hs := h.be.size
  have hs2 := hx.be.size
  refine ⟨?_, (h.vo.ext hx.be).appended hx.ok ⟨fun k hk => by have := hx.from'.1 k hk; omega, fun k hk => by have := hx.from'.2 k hk; omega⟩ (by omega) hown hc hat, fun k hk => ?_, hbo.trans (hc.below hbo.size fun i hi hs => by have := h.frw _ hs; omega), by have := h.le; omega, by simp [h.len]⟩
  · rw [h.eq, hd, takeS, hk]
    simp only [List.drop_drop, List.map_append, List.map_cons, List.map_nil, hv]
    cases takeS (ks.drop (j + 1)) (l.drop (d + u)) with
    | none => rfl
    | some y => obtain ⟨ys, t⟩ := y; simp [Nat.add_assoc]
  · rcases hat with hat | hat
    · exact h.frw k (hat ▸ hk)
    · rw [hat] at hk; injection hk with hk; have := hbo.size; omega

theorem blk_ext_alloc {W w3 : World} {t : TypeId} {cs : Array Value} {g : Nat} (hb : Below (W.alloc (.cells cs t)).drew.heap.size (W.alloc (.cells cs t)).drew w3) (hg : W.heap.size = g) : Blk w3 g t cs := by
  subst hg
  have h : Blk (W.alloc (.cells cs t)).drew W.heap.size t cs := (Blk.new W t cs).drew
  exact h.ext hb

theorem hb_d (w : World) : Hid (Below w.heap.size w w.drew) := (Below.refl _ _).drew
theorem hb_ad (w : World) (o : Obj) : Hid (Below w.heap.size w (w.alloc o).drew) := ((Below.refl _ _).alloc (Nat.le_refl _) _).drew
theorem hb_aad (w : World) (o o' : Obj) : Hid (Below w.heap.size w ((w.alloc o).alloc o').drew) := (((Below.refl _ _).alloc (Nat.le_refl _) _).alloc (by simp) _).drew
theorem b4_d {w w3 : World} (h : Below w.drew.heap.size w.drew w3) : Below w.heap.size w w3 := (hb_d w).out.trans h
theorem b4_ad {w w3 : World} {o : Obj} (h : Below (w.alloc o).drew.heap.size (w.alloc o).drew w3) : Below w.heap.size w w3 := (hb_ad w o).out.trans (h.mono (by simp))
theorem b4_aad {w w3 : World} {o o' : Obj} (h : Below ((w.alloc o).alloc o').drew.heap.size ((w.alloc o).alloc o').drew w3) : Below w.heap.size w w3 := (hb_aad w o o').out.trans (h.mono (by simp; omega))
theorem blk_1 {w w3 : World} {t : TypeId} {cs : Array Value} (h : Below (w.alloc (.cells cs t)).drew.heap.size (w.alloc (.cells cs t)).drew w3) : Blk w3 w.heap.size t cs := blk_ext_alloc h rfl
theorem blk_2 {w w3 : World} {o : Obj} {t : TypeId} {cs : Array Value} (h : Below ((w.alloc o).alloc (.cells cs t)).drew.heap.size ((w.alloc o).alloc (.cells cs t)).drew w3) : Blk w3 (w.heap.size + 1) t cs := blk_ext_alloc h (by simp)
theorem tk_enters (k : Kd) : ∀ args w, (callFunc k.take args).run Try.prog w = .ok (.enter k.take args) w := by
  cases k with
  | nat => exact enters_of Try.func97 (by kernel_rfl) rfl
  | int => exact enters_of Try.func100 (by kernel_rfl) rfl
  | flag => exact enters_of Try.func102 (by kernel_rfl) rfl
  | bytes => exact enters_of Try.func105 (by kernel_rfl) rfl
  | row => exact enters_of Try.func108 (by kernel_rfl) rfl
end Go.Proofs.Ytoneechcclndaaa.Wire

namespace Go.Proofs.Ytoneechcclndaaa.Wire
open Go.RowKit Go.ChangeShapes Go.WideShapes Go.ChangeAt
set_option linter.unusedVariables false
set_option linter.unusedSimpArgs false
attribute [local go_sem ↓] Go.wp_at_zero Go.wp_at_succ
open Go.Shelf Go.Proofs.Ytoneechcclndaaa.Word

set_option maxHeartbeats 4000000 in
set_option maxRecDepth 100000 in
theorem take_any (s : ByteArray) (l : List UInt8) (A : Option Addr) (n cap : Nat) (w : World) (hs : s.data.toList.length ≤ 1000000) (hl : BySl w w.heap.size A l) (hn : Hid (n = l.length)) (hc : n ≤ cap) (hm : n ≤ 1000000000000) :
    Calls Try.prog 24 #[.string s, .slice A n cap] w (RetTake w (takeP s.data.toList l)) := by
  obtain ⟨i0, hi, hz, hz1, hz2⟩ := info_parts vInfo
  have hsc := fun W => schema_any s W hs
  generalize s.data.toList = sl at *
  have HL := Lib.hid hl
  cases hsp : schemaP sl with
  | none =>
    rw [hsp] at hsc
    have ht : Hid (takeP sl l = ([], 0, 2)) := by unfold Hid takeP; rw [hsp]
    clear hl
    go_enter Try.func24, Try.ntmps24
    go_wp2_with (go_at_call 52; refine (hsc _).mono ?_; rintro e w1 ⟨hb, rfl⟩)
    refine bodyPost_ret (v := .tuple #[.slice none 0 0, .int .i64 0, .int .i64 2]) (by simp [results, Try.results24, go_sem]) rfl ?_
    rw [ht.out]
    exact ⟨hb, none, 0, 0, [], rfl, rfl, VOwn.nil _ _⟩
  | some ks =>
    rw [hsp] at hsc
    have ht : Hid (takeP sl l = outT (takeS ks l)) := by unfold Hid takeP; rw [hsp]
    have hk64 : Hid (ks.length ≤ 64) := by
      unfold schemaP at hsp
      split at hsp
      · rw [Hid, kds_length _ _ hsp]; assumption
      · cases hsp
    clear hl hsp
    go_enter Try.func24, Try.ntmps24
    go_wp2_with (go_at_call 52; refine (hsc _).mono ?_; rintro e W ⟨hb, kv, rfl, hko, hkf⟩; obtain ⟨kA, kn, kc, rfl, hkn, hkle, hkmx, hknil⟩ := hko.form; have HK : Hid (OwnA W 88 3 Kd.cells (.slice kA kn kc) ks ∧ Below w.heap.size w W) := ⟨hko, hb⟩; clear hko hb hkf)
    have hkn64 : kn ≤ 64 := by rw [hkn.out]; exact hk64.out
    go_loopg [9, 10, 25] kn (fun gk vo vd vj wr => ∃ (j d : Nat) (rs : List Wr) (A2 : Option Addr) (n2 c2 : Nat), vj = .int .i64 (j : Int) ∧ vd = .int .i64 (d : Int) ∧ vo = .slice A2 n2 c2 ∧ kn ≤ j + gk ∧ j ≤ kn ∧ Hid (TI l ks w.heap.size W wr j d rs A2 n2 c2))
    case atStart =>
      refine ⟨0, 0, [], none, 0, 0, rfl, rfl, rfl, by omega, by omega, ⟨?_, VOwn.nil _ _, (fun k hk => by cases hk), Below.refl _ _, Nat.zero_le _, rfl⟩⟩
      rw [List.drop_zero, List.drop_zero]
      cases takeS ks l with
      | none => rfl
      | some y => obtain ⟨ys, t⟩ := y; simp
    case round =>
      obtain ⟨j, d, rs, A2, n2, c2, rfl, rfl, rfl, hgk, hj, hTI⟩ := hrel
      by_cases hjn : j < kn
      · have hx : ks[j]? = some ks[j] := List.getElem?_eq_getElem (by rw [← hkn.out]; exact hjn)
        have HD := Lib.hid (List.drop_eq_getElem_cons (show j < ks.length by rw [← hkn.out]; exact hjn))
        obtain ⟨bb, off, rfl, hbb, c0, c1, c2'⟩ := Kd.at_ (Sl.ext (HK.out.1.sl Kd.cells_len) hTI.out.be) hx
        generalize ks[j] = k at *
        have b0 : (0 : Int) ≤ (j : Int) := Int.natCast_nonneg _
        have b1 : (j : Int) < (kn : Int) := by omega
        have hdl := hTI.out.le
        have hlo : ∀ W, (Instr.slice 25 (.slice A n cap) (some (.int .i64 (d : Int))) none none).run Try.prog W = .ok (.slice (cutA A cap d 1) (n - d) (cap - d)) W := fun W => by
          have := run_slice_lo (c := 1) Try.underlying25 (Option.isSome_iff_exists.1 (by kernel_rfl)) (by kernel_rfl) A n cap (d : Int) (by omega) (by rw [hn.out]; omega) W
          simpa using this
        have hbw : Hid (Below w.heap.size w wr) := HK.out.2.trans (hTI.out.be.mono HK.out.2.size)
        have htk : ∀ W2, Hid (Below wr.heap.size wr W2) → Calls Try.prog k.take #[.slice (cutA A cap d 1) (n - d) (cap - d)] W2 (RetTk W2 (takeK k (l.drop d))) := fun W2 h2 => by
          refine tk_any k (l.drop d) _ _ _ W2 ((((Sl.cut HL.out cap d (by rw [← hn.out]; exact hc)).below hbw.out).more hbw.out.size).ext h2.out) (by unfold Hid; rw [List.length_drop, ← hn.out]) (by omega) (by omega)
        generalize cutA A cap d 1 = Ac at *
        have hen := tk_enters k
        unfold fnV at c1 c2'
        clear hx
        cases hk : takeK k (l.drop d) with
        | none =>
          rw [hk] at htk
          have ht2 : Hid (takeP sl l = ([], 0, 40)) := by
            rw [Hid, ht.out, hTI.out.eq, HD.out, takeS, hk]; rfl
          clear hk
          generalize k.take = ft at *
          generalize k.put = fp at *
          generalize k.byte = by' at *
          go_upto_region 9 with fail
          go_cut [13, 14, 15] (fun s13 s14 s15 wx => s15 = .bool false ∧ Hid (Below wr.heap.size wr wx))
          case first =>
            go_region_with (refine (htk _ ?_).mono ?_; (first | (with_reducible exact hb_ad wr _) | (with_reducible exact hb_aad wr _ _)); rintro e w3 ⟨hb3, rfl⟩; have hb4 : Below wr.heap.size wr w3 := (by first | (with_reducible exact b4_ad hb3) | (with_reducible exact b4_aad hb3)); simp only [wr0_agg]; first | (have hB9 : Blk w3 (wr.heap.size + 1) 38 #[.int .u64 0, .int .i64 0, .bool false, .slice none 0 0, .slice none 0 0] := (by with_reducible exact blk_2 hb3); have y0 : w3.cell? ⟨wr.heap.size + 1, 0, none⟩ = some (.int .u64 0) := hB9.cell 0; have y1 : w3.cell? ⟨wr.heap.size + 1, 1, none⟩ = some (.int .i64 0) := hB9.cell 1; have y2 : w3.cell? ⟨wr.heap.size + 1, 2, none⟩ = some (.bool false) := hB9.cell 2; have y3 : w3.cell? ⟨wr.heap.size + 1, 3, none⟩ = some (.slice none 0 0) := hB9.cell 3; have y4 : w3.cell? ⟨wr.heap.size + 1, 4, none⟩ = some (.slice none 0 0) := hB9.cell 4; have g0 := hB9.free 0; have g1 := hB9.free 1; have g2 := hB9.free 2; have g3 := hB9.free 3; have g4 := hB9.free 4) | skip)
            all_goals (go_wp2_with fail; go_meet; first | (have h9 := hB9; exact ⟨rfl, Lib.hid (below_five hb4 (Nat.le_succ _) _ _ _ _ _)⟩) | exact ⟨rfl, Lib.hid (hb4.alloc hb4.size _)⟩)
          case rest =>
            obtain ⟨rfl, hwx⟩ := hcut
            go_wp2
            refine bodyPost_ret (v := .tuple #[.slice none 0 0, .int .i64 0, .int .i64 40]) (by simp [results, Try.results24, go_sem]) rfl ?_
            rw [ht2.out]
            exact ⟨hbw.out.trans (hwx.out.mono hbw.out.size), none, 0, 0, [], rfl, rfl, VOwn.nil _ _⟩
        | some y =>
          obtain ⟨v, u⟩ := y
          rw [hk] at htk
          have hnx := Lib.hid hk
          have hu := (takeK_le hk).2
          rw [List.length_drop] at hu
          have e2 : IntKind.i64.wrap ((d : Int) + (u : Int)) = ((d + u : Nat) : Int) := by rw [IntWalk.i64_in _ (by have := hn.out; omega)]; omega
          obtain ⟨du, hdu⟩ : ∃ t, t = d + u := ⟨_, rfl⟩
          rw [← hdu] at e2
          have HDU := Lib.hid hdu
          have h1 : Hid (rs.length + [wr0].length ≤ maxLen) := by rw [Hid, hTI.out.len]; simp [maxLen]; omega
          have h2 : Hid ((rs.length + [wr0].length) * 72 ≤ 140737488355328) := by rw [Hid, hTI.out.len]; simp; omega
          clear hk hdu
          generalize k.take = ft at *
          generalize k.put = fp at *
          generalize k.byte = by' at *
          go_upto_region 9 with fail
          go_cut [13, 14, 15] (fun s13 s14 s15 wx => s15 = .bool true ∧ s14 = .int .i64 (u : Int) ∧ ∃ g r, s13 = .pointer (some ⟨g, 0, none⟩) ∧ Hid (r.v = v ∧ VBox wr wx g r))
          case first =>
            go_region_with (refine (htk _ ?_).mono ?_; (first | (with_reducible exact hb_ad wr _) | (with_reducible exact hb_aad wr _ _)); rintro e w3 ⟨hb3, r, hrv, rfl, hrok, hrf⟩; have hb4 : Below wr.heap.size wr w3 := (by first | (with_reducible exact b4_ad hb3) | (with_reducible exact b4_aad hb3)); have HR := Lib.hid (And.intro hrv (And.intro hrok hrf)); clear hrv hrok hrf; simp only [Wr.agg]; first | (have hB9 : Blk w3 (wr.heap.size + 1) 38 #[.int .u64 0, .int .i64 0, .bool false, .slice none 0 0, .slice none 0 0] := (by with_reducible exact blk_2 hb3); have y0 : w3.cell? ⟨wr.heap.size + 1, 0, none⟩ = some (.int .u64 0) := hB9.cell 0; have y1 : w3.cell? ⟨wr.heap.size + 1, 1, none⟩ = some (.int .i64 0) := hB9.cell 1; have y2 : w3.cell? ⟨wr.heap.size + 1, 2, none⟩ = some (.bool false) := hB9.cell 2; have y3 : w3.cell? ⟨wr.heap.size + 1, 3, none⟩ = some (.slice none 0 0) := hB9.cell 3; have y4 : w3.cell? ⟨wr.heap.size + 1, 4, none⟩ = some (.slice none 0 0) := hB9.cell 4; have g0 := hB9.free 0; have g1 := hB9.free 1; have g2 := hB9.free 2; have g3 := hB9.free 3; have g4 := hB9.free 4) | skip)
            all_goals (go_wp2_with fail; go_meet; first | (have h9 := hB9; exact ⟨rfl, rfl, wr.heap.size + 1, r, rfl, HR.out.1, VBox.set h9 HR.out.2.1 HR.out.2.2 ⟨Nat.le_succ _, by simp⟩ hb4⟩) | exact ⟨rfl, rfl, w3.heap.size, r, rfl, HR.out.1, VBox.new HR.out.2.1 HR.out.2.2 (by simp <;> omega) hb4⟩)
          case rest =>
            obtain ⟨rfl, rfl, g, r, rfl, hVB⟩ := hcut
            have y0 : wc.cell? ⟨g, 0, none⟩ = some (.int .u64 (r.v.n : Int)) := hVB.out.2.blk.cell 0
            have y1 : wc.cell? ⟨g, 1, none⟩ = some (.int .i64 r.v.i) := hVB.out.2.blk.cell 1
            have y2 : wc.cell? ⟨g, 2, none⟩ = some (.bool r.v.f) := hVB.out.2.blk.cell 2
            have y3 : wc.cell? ⟨g, 3, none⟩ = some (.slice r.bA r.bn r.bc) := hVB.out.2.blk.cell 3
            have y4 : wc.cell? ⟨g, 4, none⟩ = some (.slice r.lA r.ln r.lc) := hVB.out.2.blk.cell 4
            have HO := Lib.hid (hTI.out.vo.own.ext hVB.out.2.be)
            go_wp2_with (at_builtin; refine wpList_append_a _ rfl _ _ _ rfl 38 i0 _ 5 72 Try.underlying22 hi hz hz1 hz2 rfl (by decide) Wr.cells_len Wr.cells_one _ rs (by rfl) (HO.out.alloc _) _ (some ⟨wc.heap.size, 0, none⟩) [r] 1 1 (by rfl) rfl (lit_one wc r 38 rfl) h1.out h2.out ?_; intro v' w' hown' hchg hat; obtain ⟨A3, n3, c3', rfl, hn3, hle3, hmx3, hnil3⟩ := hown'.form; have HA := Lib.hid (And.intro hown' (And.intro hchg hat)); clear hown' hchg hat)
            go_roundg (gk - 1)
            case measure => omega
            case rel => exact ⟨j + 1, du, rs ++ [r], A3, n3, c3', by go_num, rfl, rfl, by omega, by omega, by rw [HDU.out]; exact hTI.out.next HK.out.2.size hVB.out.2 hVB.out.1 HD.out hnx.out HA.out.1 HA.out.2.1 HA.out.2.2⟩
      · have ht2 : Hid (takeP sl l = (rs.map Wr.v, d, 0)) := by
          rw [Hid, ht.out, hTI.out.eq, List.drop_of_length_le (by rw [← hkn.out]; omega), takeS]
          simp [outT]
        have b1 : ¬ (j : Int) < (kn : Int) := by omega
        go_wp2
        refine bodyPost_ret (v := .tuple #[.slice A2 n2 c2, .int .i64 (d : Int), .int .i64 0]) (by simp [results, Try.results24, go_sem]) rfl ?_
        rw [ht2.out]
        exact ⟨HK.out.2.trans (hTI.out.be.mono HK.out.2.size), A2, n2, c2, rs, rfl, rfl, hTI.out.vo⟩
end Go.Proofs.Ytoneechcclndaaa.Wire

namespace Go.Proofs.Ytoneechcclndaaa.Wire
open Go.RowKit Go.ChangeShapes Go.WideShapes Go.ChangeAt
set_option linter.unusedVariables false
set_option linter.unusedSimpArgs false
attribute [local go_sem ↓] Go.wp_at_zero Go.wp_at_succ
open Go.Shelf Go.Proofs.Ytoneechcclndaaa.Word

/-- what the document's take leaves -/
def RetRk (w : World) (x : Option (WV × Nat)) (e : Ending) (w' : World) : Prop :=
  Below w.heap.size w w' ∧ match x with
    | none => e = .returned (.tuple #[wr0.agg, .int .i64 0])
    | some (v, u) => ∃ r : Wr, r.v = v ∧ e = .returned (.tuple #[r.agg, .int .i64 (u : Int)]) ∧ r.Ok w' ∧ r.From w.heap.size

theorem runfold_any (n : Nat) (hn : n < p64) (w : World) : Calls Try.prog 111 #[.int .u64 (n : Int)] w fun e w' => e = .returned (.int .i64 (unfoldZ n)) ∧ w = w' := by
  unfold p64 at hn
  obtain ⟨k, hk⟩ : ∃ k, k = n / 2 := ⟨_, rfl⟩
  have e1 : Int.tdiv (n : Int) 2 = (k : Int) := by rw [hk]; exact (Int.ofNat_tdiv _ _).symm
  have e0 : IntKind.u64.wrap (k : Int) = (k : Int) := IntWalk.u64_in _ (by omega)
  have e3 : IntKind.i64.wrap (k : Int) = (k : Int) := IntWalk.i64_in _ (by omega)
  have e4 : IntKind.i64.wrap (-1 - (k : Int)) = -1 - (k : Int) := IntWalk.i64_in _ (by omega)
  by_cases h : n % 2 = 0
  · have hF : Hid (unfoldZ n = (k : Int)) := by unfold Hid unfoldZ; rw [if_pos h, hk]
    have e2 : Int.tmod (n : Int) 2 = 0 := by
      have : Int.tmod (n : Int) 2 = ((n % 2 : Nat) : Int) := (Int.ofNat_tmod _ _).symm
      rw [this, h]; rfl
    clear hk hn h
    go_enter Try.func111, Try.ntmps111
    go_wp2
    go_ret
    exact ⟨ret_k hF.out.symm, rfl⟩
  · have hF : Hid (unfoldZ n = -1 - (k : Int)) := by unfold Hid unfoldZ; rw [if_neg h, hk]
    have e2 : Int.tmod (n : Int) 2 = 1 := by
      have : Int.tmod (n : Int) 2 = ((n % 2 : Nat) : Int) := (Int.ofNat_tmod _ _).symm
      rw [this]; omega
    clear hk hn h
    go_enter Try.func111, Try.ntmps111
    go_wp2
    go_ret
    exact ⟨ret_k hF.out.symm, rfl⟩

theorem two_boxes (w : World) : Blk ((w.alloc (.cells zV 38)).alloc (.cells zV 38)) w.heap.size 38 zV ∧ Blk ((w.alloc (.cells zV 38)).alloc (.cells zV 38)) (w.heap.size + 1) 38 zV ∧ Below w.heap.size w ((w.alloc (.cells zV 38)).alloc (.cells zV 38)) := by
  refine ⟨(Blk.new _ _ _).alloc _, ?_, (by repeat (first | exact Below.refl _ _ | assumption | refine Below.drew ?_ | refine bdrewN ?_ _ | refine Below.alloc ?_ (by simp; try omega) _ | refine Below.setCell ?_ (by simp; try omega) _))⟩
  have := Blk.new (w.alloc (.cells zV 38)) 38 zV
  rwa [World.size_alloc] at this

set_option maxHeartbeats 2000000 in
theorem rnat_any (l : List UInt8) (A : Option Addr) (n cap : Nat) (w : World) (hl : BySl w w.heap.size A l) (hn : Hid (n = l.length)) (hc : n ≤ cap) (hm : n ≤ 1000000000000) :
    Calls Try.prog 93 #[.int .u8 110, .slice A n cap] w (RetRk w (takeK .nat l)) := by
  have HZ := Lib.hid (two_boxes w)
  have HL := Lib.hid (hl.ext HZ.out.2.2)
  have hg0 : getAt l 0 = getW l := getAt_zero l
  clear hl
  cases hg : getW l with
  | none =>
    have ht : Hid (takeK .nat l = none) := by unfold Hid takeK; rw [hg]; rfl
    have e0 : getV (getAt l 0) = .tuple #[.int .u64 0, .int .i64 0, .bool false] := by rw [hg0, hg]; rfl
    clear hg0 hg
    go_enter Try.func93, Try.ntmps93
    go_wp2_with (go_at_call 110; refine (rget_any l A n cap 0 _ HL.out hn hc hm).mono ?_; rintro e w1 ⟨rfl, hb⟩; rw [e0]; have HB : Hid (Blk w1 w.heap.size 38 zV ∧ Blk w1 (w.heap.size + 1) 38 zV ∧ Below w.heap.size w w1) := ⟨HZ.out.1.ext hb, HZ.out.2.1.ext hb, ext_under HZ.out.2.2 (Nat.le_refl _) hb⟩; clear hb; have c0 : w1.cell? ⟨w.heap.size, 0, none⟩ = some (.int .u64 0) := HB.out.1.cell 0; have c1 : w1.cell? ⟨w.heap.size, 1, none⟩ = some (.int .i64 0) := HB.out.1.cell 1; have c2 : w1.cell? ⟨w.heap.size, 2, none⟩ = some (.bool false) := HB.out.1.cell 2; have c3 : w1.cell? ⟨w.heap.size, 3, none⟩ = some (.slice none 0 0) := HB.out.1.cell 3; have c4 : w1.cell? ⟨w.heap.size, 4, none⟩ = some (.slice none 0 0) := HB.out.1.cell 4; have f0 := HB.out.1.free 0; have f1 := HB.out.1.free 1; have f2 := HB.out.1.free 2; have f3 := HB.out.1.free 3; have f4 := HB.out.1.free 4; have bx0 : w1.cell? ⟨w.heap.size + 1, 0, none⟩ = some (.int .u64 0) := HB.out.2.1.cell 0; have bx1 : w1.cell? ⟨w.heap.size + 1, 1, none⟩ = some (.int .i64 0) := HB.out.2.1.cell 1; have bx2 : w1.cell? ⟨w.heap.size + 1, 2, none⟩ = some (.bool false) := HB.out.2.1.cell 2; have bx3 : w1.cell? ⟨w.heap.size + 1, 3, none⟩ = some (.slice none 0 0) := HB.out.2.1.cell 3; have bx4 : w1.cell? ⟨w.heap.size + 1, 4, none⟩ = some (.slice none 0 0) := HB.out.2.1.cell 4; have bf0 := HB.out.2.1.free 0; have bf1 := HB.out.2.1.free 1; have bf2 := HB.out.2.1.free 2; have bf3 := HB.out.2.1.free 3; have bf4 := HB.out.2.1.free 4)
    have hF := blk_five (HB.out.1) (.int .u64 0) (.int .i64 0) (.bool false) (.slice none 0 0) (.slice none 0 0); have q0 := hF.cell 0; have q1 := hF.cell 1; have q2 := hF.cell 2; have q3 := hF.cell 3; have q4 := hF.cell 4; clear hF
    refine bodyPost_ret (v := .tuple #[wr0.agg, .int .i64 0]) ?_ rfl ⟨below_five HB.out.2.2 (Nat.le_refl _) _ _ _ _ _, by rw [ht.out]⟩
    simp [results, Try.results93, go_sem, q0, q1, q2, q3, q4, wr0_agg]
  | some x =>
    obtain ⟨v, u⟩ := x
    have ht : Hid (takeK .nat l = some ({ wv0 with n := v }, u)) := by unfold Hid takeK; rw [hg]; rfl
    have e0 : getV (getAt l 0) = .tuple #[.int .u64 (v : Int), .int .i64 (u : Int), .bool true] := by rw [hg0, hg]; rfl
    have hv := Lib.hid (get_some hg).1
    clear hg0 hg
    go_enter Try.func93, Try.ntmps93
    go_wp2_with (go_at_call 110; refine (rget_any l A n cap 0 _ HL.out hn hc hm).mono ?_; rintro e w1 ⟨rfl, hb⟩; rw [e0]; have HB : Hid (Blk w1 w.heap.size 38 zV ∧ Blk w1 (w.heap.size + 1) 38 zV ∧ Below w.heap.size w w1) := ⟨HZ.out.1.ext hb, HZ.out.2.1.ext hb, ext_under HZ.out.2.2 (Nat.le_refl _) hb⟩; clear hb; have c0 : w1.cell? ⟨w.heap.size, 0, none⟩ = some (.int .u64 0) := HB.out.1.cell 0; have c1 : w1.cell? ⟨w.heap.size, 1, none⟩ = some (.int .i64 0) := HB.out.1.cell 1; have c2 : w1.cell? ⟨w.heap.size, 2, none⟩ = some (.bool false) := HB.out.1.cell 2; have c3 : w1.cell? ⟨w.heap.size, 3, none⟩ = some (.slice none 0 0) := HB.out.1.cell 3; have c4 : w1.cell? ⟨w.heap.size, 4, none⟩ = some (.slice none 0 0) := HB.out.1.cell 4; have f0 := HB.out.1.free 0; have f1 := HB.out.1.free 1; have f2 := HB.out.1.free 2; have f3 := HB.out.1.free 3; have f4 := HB.out.1.free 4; have bx0 : w1.cell? ⟨w.heap.size + 1, 0, none⟩ = some (.int .u64 0) := HB.out.2.1.cell 0; have bx1 : w1.cell? ⟨w.heap.size + 1, 1, none⟩ = some (.int .i64 0) := HB.out.2.1.cell 1; have bx2 : w1.cell? ⟨w.heap.size + 1, 2, none⟩ = some (.bool false) := HB.out.2.1.cell 2; have bx3 : w1.cell? ⟨w.heap.size + 1, 3, none⟩ = some (.slice none 0 0) := HB.out.2.1.cell 3; have bx4 : w1.cell? ⟨w.heap.size + 1, 4, none⟩ = some (.slice none 0 0) := HB.out.2.1.cell 4; have bf0 := HB.out.2.1.free 0; have bf1 := HB.out.2.1.free 1; have bf2 := HB.out.2.1.free 2; have bf3 := HB.out.2.1.free 3; have bf4 := HB.out.2.1.free 4)
    have hF := blk_five (HB.out.1.far (p := ⟨w.heap.size + 1, 0, none⟩) (by simp) (.int .u64 (v : Int))) (.int .u64 (v : Int)) (.int .i64 0) (.bool false) (.slice none 0 0) (.slice none 0 0); have q0 := hF.cell 0; have q1 := hF.cell 1; have q2 := hF.cell 2; have q3 := hF.cell 3; have q4 := hF.cell 4; clear hF
    refine bodyPost_ret (v := .tuple #[(⟨{ wv0 with n := v }, none, 0, 0, none, 0, 0⟩ : Wr).agg, .int .i64 (u : Int)]) ?_ rfl ⟨below_five (HB.out.2.2.setCell (p := ⟨w.heap.size + 1, 0, none⟩) (Nat.le_succ _) _) (Nat.le_refl _) _ _ _ _ _, by
      rw [ht.out]
      exact ⟨⟨{ wv0 with n := v }, none, 0, 0, none, 0, 0⟩, rfl, rfl, Wr.Ok.bare _ _ rfl rfl ⟨hv.out, wv0_wf.2⟩, Wr.From.bare _ _⟩⟩
    simp [results, Try.results93, go_sem, q0, q1, q2, q3, q4, Wr.agg, wv0]

set_option maxHeartbeats 2000000 in
theorem rint_any (l : List UInt8) (A : Option Addr) (n cap : Nat) (w : World) (hl : BySl w w.heap.size A l) (hn : Hid (n = l.length)) (hc : n ≤ cap) (hm : n ≤ 1000000000000) :
    Calls Try.prog 93 #[.int .u8 105, .slice A n cap] w (RetRk w (takeK .int l)) := by
  have HZ := Lib.hid (two_boxes w)
  have HL := Lib.hid (hl.ext HZ.out.2.2)
  have hg0 : getAt l 0 = getW l := getAt_zero l
  clear hl
  cases hg : getW l with
  | none =>
    have ht : Hid (takeK .int l = none) := by unfold Hid takeK; rw [hg]; rfl
    have e0 : getV (getAt l 0) = .tuple #[.int .u64 0, .int .i64 0, .bool false] := by rw [hg0, hg]; rfl
    clear hg0 hg
    go_enter Try.func93, Try.ntmps93
    go_wp2_with (go_at_call 110; refine (rget_any l A n cap 0 _ HL.out hn hc hm).mono ?_; rintro e w1 ⟨rfl, hb⟩; rw [e0]; have HB : Hid (Blk w1 w.heap.size 38 zV ∧ Blk w1 (w.heap.size + 1) 38 zV ∧ Below w.heap.size w w1) := ⟨HZ.out.1.ext hb, HZ.out.2.1.ext hb, ext_under HZ.out.2.2 (Nat.le_refl _) hb⟩; clear hb; have c0 : w1.cell? ⟨w.heap.size, 0, none⟩ = some (.int .u64 0) := HB.out.1.cell 0; have c1 : w1.cell? ⟨w.heap.size, 1, none⟩ = some (.int .i64 0) := HB.out.1.cell 1; have c2 : w1.cell? ⟨w.heap.size, 2, none⟩ = some (.bool false) := HB.out.1.cell 2; have c3 : w1.cell? ⟨w.heap.size, 3, none⟩ = some (.slice none 0 0) := HB.out.1.cell 3; have c4 : w1.cell? ⟨w.heap.size, 4, none⟩ = some (.slice none 0 0) := HB.out.1.cell 4; have f0 := HB.out.1.free 0; have f1 := HB.out.1.free 1; have f2 := HB.out.1.free 2; have f3 := HB.out.1.free 3; have f4 := HB.out.1.free 4; have bx0 : w1.cell? ⟨w.heap.size + 1, 0, none⟩ = some (.int .u64 0) := HB.out.2.1.cell 0; have bx1 : w1.cell? ⟨w.heap.size + 1, 1, none⟩ = some (.int .i64 0) := HB.out.2.1.cell 1; have bx2 : w1.cell? ⟨w.heap.size + 1, 2, none⟩ = some (.bool false) := HB.out.2.1.cell 2; have bx3 : w1.cell? ⟨w.heap.size + 1, 3, none⟩ = some (.slice none 0 0) := HB.out.2.1.cell 3; have bx4 : w1.cell? ⟨w.heap.size + 1, 4, none⟩ = some (.slice none 0 0) := HB.out.2.1.cell 4; have bf0 := HB.out.2.1.free 0; have bf1 := HB.out.2.1.free 1; have bf2 := HB.out.2.1.free 2; have bf3 := HB.out.2.1.free 3; have bf4 := HB.out.2.1.free 4)
    have hF := blk_five (HB.out.1) (.int .u64 0) (.int .i64 0) (.bool false) (.slice none 0 0) (.slice none 0 0); have q0 := hF.cell 0; have q1 := hF.cell 1; have q2 := hF.cell 2; have q3 := hF.cell 3; have q4 := hF.cell 4; clear hF
    refine bodyPost_ret (v := .tuple #[wr0.agg, .int .i64 0]) ?_ rfl ⟨below_five HB.out.2.2 (Nat.le_refl _) _ _ _ _ _, by rw [ht.out]⟩
    simp [results, Try.results93, go_sem, q0, q1, q2, q3, q4, wr0_agg]
  | some x =>
    obtain ⟨v, u⟩ := x
    have ht : Hid (takeK .int l = some ({ wv0 with i := unfoldZ v }, u)) := by unfold Hid takeK; rw [hg]; rfl
    have e0 : getV (getAt l 0) = .tuple #[.int .u64 (v : Int), .int .i64 (u : Int), .bool true] := by rw [hg0, hg]; rfl
    have hv := Lib.hid (get_some hg).1
    have hbd := Lib.hid (unfold_bd hv.out)
    have hU := fun w => runfold_any v hv.out w
    obtain ⟨z, hz⟩ : ∃ z, z = unfoldZ v := ⟨_, rfl⟩
    rw [← hz] at hU ht hbd
    clear hg0 hg hz
    go_enter Try.func93, Try.ntmps93
    go_wp2_with (first | (go_at_call 110; refine (rget_any l A n cap 0 _ HL.out hn hc hm).mono ?_; rintro e w1 ⟨rfl, hb⟩; rw [e0]; have HB : Hid (Blk w1 w.heap.size 38 zV ∧ Blk w1 (w.heap.size + 1) 38 zV ∧ Below w.heap.size w w1) := ⟨HZ.out.1.ext hb, HZ.out.2.1.ext hb, ext_under HZ.out.2.2 (Nat.le_refl _) hb⟩; clear hb; have c0 : w1.cell? ⟨w.heap.size, 0, none⟩ = some (.int .u64 0) := HB.out.1.cell 0; have c1 : w1.cell? ⟨w.heap.size, 1, none⟩ = some (.int .i64 0) := HB.out.1.cell 1; have c2 : w1.cell? ⟨w.heap.size, 2, none⟩ = some (.bool false) := HB.out.1.cell 2; have c3 : w1.cell? ⟨w.heap.size, 3, none⟩ = some (.slice none 0 0) := HB.out.1.cell 3; have c4 : w1.cell? ⟨w.heap.size, 4, none⟩ = some (.slice none 0 0) := HB.out.1.cell 4; have f0 := HB.out.1.free 0; have f1 := HB.out.1.free 1; have f2 := HB.out.1.free 2; have f3 := HB.out.1.free 3; have f4 := HB.out.1.free 4; have bx0 : w1.cell? ⟨w.heap.size + 1, 0, none⟩ = some (.int .u64 0) := HB.out.2.1.cell 0; have bx1 : w1.cell? ⟨w.heap.size + 1, 1, none⟩ = some (.int .i64 0) := HB.out.2.1.cell 1; have bx2 : w1.cell? ⟨w.heap.size + 1, 2, none⟩ = some (.bool false) := HB.out.2.1.cell 2; have bx3 : w1.cell? ⟨w.heap.size + 1, 3, none⟩ = some (.slice none 0 0) := HB.out.2.1.cell 3; have bx4 : w1.cell? ⟨w.heap.size + 1, 4, none⟩ = some (.slice none 0 0) := HB.out.2.1.cell 4; have bf0 := HB.out.2.1.free 0; have bf1 := HB.out.2.1.free 1; have bf2 := HB.out.2.1.free 2; have bf3 := HB.out.2.1.free 3; have bf4 := HB.out.2.1.free 4) | (go_at_call 111; refine (hU _).mono ?_; rintro e w' ⟨rfl, rfl⟩))
    have hF := blk_five (HB.out.1.far (p := ⟨w.heap.size + 1, 1, none⟩) (by simp) (.int .i64 z)) (.int .u64 0) (.int .i64 z) (.bool false) (.slice none 0 0) (.slice none 0 0); have q0 := hF.cell 0; have q1 := hF.cell 1; have q2 := hF.cell 2; have q3 := hF.cell 3; have q4 := hF.cell 4; clear hF
    refine bodyPost_ret (v := .tuple #[(⟨{ wv0 with i := z }, none, 0, 0, none, 0, 0⟩ : Wr).agg, .int .i64 (u : Int)]) ?_ rfl ⟨below_five (HB.out.2.2.setCell (p := ⟨w.heap.size + 1, 1, none⟩) (Nat.le_succ _) _) (Nat.le_refl _) _ _ _ _ _, by
      rw [ht.out]
      exact ⟨⟨{ wv0 with i := z }, none, 0, 0, none, 0, 0⟩, rfl, rfl, Wr.Ok.bare _ _ rfl rfl ⟨wv0_wf.1, hbd.out.1, hbd.out.2, wv0_wf.2.2.2⟩, Wr.From.bare _ _⟩⟩
    simp [results, Try.results93, go_sem, q0, q1, q2, q3, q4, Wr.agg, wv0]

set_option maxHeartbeats 4000000 in
theorem rflag_any (l : List UInt8) (A : Option Addr) (n cap : Nat) (w : World) (hl : BySl w w.heap.size A l) (hn : Hid (n = l.length)) (hm : n ≤ 1000000000000) :
    Calls Try.prog 93 #[.int .u8 102, .slice A n cap] w (RetRk w (takeK .flag l)) := by
  cases l with
  | nil =>
    have hn0 : n = 0 := hn.out
    subst hn0
    have ht : Hid (takeK .flag [] = none) := rfl
    clear hl
    go_enter Try.func93, Try.ntmps93
    go_wp2
    refine bodyPost_ret (v := .tuple #[wr0.agg, .int .i64 0]) ?_ rfl ⟨(by repeat (first | exact Below.refl _ _ | assumption | refine Below.drew ?_ | refine bdrewN ?_ _ | refine Below.alloc ?_ (by simp; try omega) _ | refine Below.setCell ?_ (by simp; try omega) _)), by rw [ht.out]⟩
    simp [results, Try.results93, go_sem, wr0_agg]
  | cons d l =>
    obtain ⟨bb, off, rfl, hbb, c0⟩ := BySl.at_ hl (k := 0) (b := d) rfl
    have c9 : ((w.alloc (.cells zV 38)).alloc (.cells zV 38)).cell? ⟨bb, off, none⟩ = some (.int .u8 (d.toNat : Int)) := (World.cell?_alloc_lt _ _ ⟨bb, off, none⟩ (by simp; omega)).trans ((World.cell?_alloc_lt w _ ⟨bb, off, none⟩ hbb).trans c0)
    unfold zV at c9
    have c8 : bb ≠ w.heap.size := by omega
    have c7 : bb ≠ w.heap.size + 1 := by omega
    have n0 : ((n : Int) == 0) = false := by have := hn.out; rw [List.length_cons] at this; simp; omega
    have n1 : (0 : Int) < (n : Int) := by have := hn.out; rw [List.length_cons] at this; omega
    clear hl c0
    by_cases hd : d.toNat ≤ 1
    · have ht : Hid (takeK .flag (d :: l) = some ({ wv0 with f := d.toNat == 1 }, 1)) := by unfold Hid takeK; simp only; rw [if_pos hd]
      have d1 : decide ((1 : Int) < (d.toNat : Int)) = false := decide_eq_false (by omega)
      have d2 : ((d.toNat : Int) == 1) = (d.toNat == 1) := by rw [Bool.eq_iff_iff]; simp; omega
      obtain ⟨q, hq⟩ : ∃ q, (d.toNat == 1) = q := ⟨_, rfl⟩
      rw [hq] at d2 ht
      clear hq
      go_enter Try.func93, Try.ntmps93
      go_wp2
      refine bodyPost_ret (v := .tuple #[(⟨{ wv0 with f := q }, none, 0, 0, none, 0, 0⟩ : Wr).agg, .int .i64 1]) ?_ rfl ⟨(by repeat (first | exact Below.refl _ _ | assumption | refine Below.drew ?_ | refine bdrewN ?_ _ | refine Below.alloc ?_ (by simp; try omega) _ | refine Below.setCell ?_ (by simp; try omega) _)), by
        rw [ht.out]
        exact ⟨⟨{ wv0 with f := q }, none, 0, 0, none, 0, 0⟩, rfl, rfl, Wr.Ok.bare _ _ rfl rfl wv0_wf, Wr.From.bare _ _⟩⟩
      simp [results, Try.results93, go_sem, Wr.agg, wv0]
    · have ht : Hid (takeK .flag (d :: l) = none) := by unfold Hid takeK; simp only; rw [if_neg hd]
      have d1 : decide ((1 : Int) < (d.toNat : Int)) = true := decide_eq_true (by omega)
      go_enter Try.func93, Try.ntmps93
      go_wp2
      refine bodyPost_ret (v := .tuple #[wr0.agg, .int .i64 0]) ?_ rfl ⟨(by repeat (first | exact Below.refl _ _ | assumption | refine Below.drew ?_ | refine bdrewN ?_ _ | refine Below.alloc ?_ (by simp; try omega) _ | refine Below.setCell ?_ (by simp; try omega) _)), by rw [ht.out]⟩
      simp [results, Try.results93, go_sem, wr0_agg]
end Go.Proofs.Ytoneechcclndaaa.Wire
