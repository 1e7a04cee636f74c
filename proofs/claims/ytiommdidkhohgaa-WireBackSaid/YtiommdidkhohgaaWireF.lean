/- wire: the program's schema. -/
import Derived.Test.YtiommdidkhohgaaWireE
import Derived.Laws.IdiomStrings
import Derived.Outline
import Derived.BigQuiet
import Derived.Deep.QuietTactic
import Derived.Deep.RegionWith
import Derived.Deep.RegionHeld3
import Derived.Deep.DrawnRows
import Derived.Deep.LoopGhost
import Derived.Deep.DeepCutAuto
import Derived.Laws.EntriesVeiled
namespace Go.Proofs.Ytiommdidkhohgaa.Wire
open Go.RowKit Go.ChangeShapes Go.WideShapes Go.ChangeAt
set_option linter.unusedVariables false
set_option linter.unusedSimpArgs false
attribute [local go_sem ↓] Go.wp_at_zero Go.wp_at_succ
open Go.Shelf Go.Proofs.Ytiommdidkhohgaa.Word

/-- what schema leaves -/
def RetSc (w : World) (x : Option (List Kd)) (e : Ending) (w' : World) : Prop :=
  Below w.heap.size w w' ∧ match x with
    | none => e = .returned (.tuple #[.slice none 0 0, .bool false])
    | some ks => ∃ v, e = .returned (.tuple #[v, .bool true]) ∧ OwnA w' 76 3 Kd.cells v ks ∧ ∀ k, v.ownBlock = some k → w.heap.size ≤ k

/-- a literal of one element -/
theorem lit_one {α : Type} {enc : α → List Value} {c : Nat} (w : World) (x : α) (t : TypeId) (hx : (enc x).length = c) : Sl (w.alloc (.cells (enc x).toArray t)) (w.alloc (.cells (enc x).toArray t)).heap.size c enc (some ⟨w.heap.size, 0, none⟩) [x] := by
  intro _
  refine ⟨w.heap.size, 0, rfl, by simp, fun k y hy j v hv => ?_⟩
  have hk : k = 0 := by
    rcases k with _ | k
    · rfl
    · simp at hy
  subst hk
  simp only [List.getElem?_cons_zero, Option.some.injEq] at hy
  subst hy
  rw [(Blk.new w t _).cell]
  simpa using hv

theorem size_toList (s : ByteArray) : s.size = s.data.toList.length := rfl
theorem conv_bytes (s : ByteArray) (W : World) : ∃ cap W', (convert 9 22 (.string s)).run Try.prog W = .ok (.slice (some ⟨W.heap.size, 0, none⟩) s.size cap) W' ∧ BySl W' W'.heap.size (some ⟨W.heap.size, 0, none⟩) s.data.toList ∧ Below W.heap.size W W' := by
  refine ⟨_, _, run_bytes_of_string W 9 22 5 s Try.underlying9 Try.underlying22 Try.underlying5, ?_, ((Below.refl _ _).drew).alloc (Nat.le_refl _) _⟩
  intro _
  refine ⟨W.heap.size, 0, rfl, by simp, fun k x hx j v hv => ?_⟩
  have hj : j = 0 := by
    rcases j with _ | j
    · rfl
    · simp [encB] at hv
  subst hj
  simp only [encB, List.getElem?_cons_zero, Option.some.injEq] at hv
  subst hv
  have hk := (List.getElem?_eq_some_iff.1 hx).1
  unfold World.cell?
  have hh : ∀ (V : World) (o : Obj), (V.alloc o).heap[V.heap.size]? = some o := fun V o => heap_alloc_new V o
  have h1 := hh W.drew (.cells (bytesRow s (grownCap W s.size 0 5)) 5 ((bytesRow s (grownCap W s.size 0 5)).size, (bytesRow s (grownCap W s.size 0 5)).size + 1))
  have h2 : W.drew.heap.size = W.heap.size := rfl
  rw [h2] at h1
  simp only [h1]
  have h3 : (bytesRow s (grownCap W s.size 0 5))[0 + k * 1 + 0]? = some (.int .u8 (x.toNat : Int)) := by
    unfold bytesRow
    rw [show 0 + k * 1 + 0 = k from by omega, Array.getElem?_append_left (by simpa using hk)]
    rw [Array.getElem?_map]
    have : s.data[k]? = some x := by simpa using hx
    rw [this]; rfl
  first | exact h3 | simpa using h3

theorem kInfo : (Try.prog.info? 76).map (fun i => (i.zero, i.size, i.bytes)) = some (some (.agg #[.int .u8 0, .nilFunc, .nilFunc]), 3, 24) := by kernel_rfl
def Kd.idx : Kd → Nat
  | .nat => 0
  | .int => 1
  | .flag => 2
  | .bytes => 3
  | .row => 4
theorem Kd.idx_at (k : Kd) : allK[k.idx]? = some k := by cases k <;> rfl
theorem Kd.idx_lt (k : Kd) : k.idx < 5 := by cases k <;> decide
theorem kix_none {x : Nat} (h : kdOf x = none) : kixF x allK 0 = -1 := by
  unfold kdOf at h
  split at h; · cases h
  split at h; · cases h
  split at h; · cases h
  split at h; · cases h
  split at h; · cases h
  simp only [allK, kixF]
  rw [if_neg (by show ¬ (110 = x); omega), if_neg (by show ¬ (105 = x); omega), if_neg (by show ¬ (102 = x); omega), if_neg (by show ¬ (98 = x); omega), if_neg (by show ¬ (108 = x); omega)]
theorem kix_some {x : Nat} {k : Kd} (h : kdOf x = some k) : kixF x allK 0 = (k.idx : Int) := by
  unfold kdOf at h
  split at h; · cases h; subst x; rfl
  split at h; · cases h; subst x; rfl
  split at h; · cases h; subst x; rfl
  split at h; · cases h; subst x; rfl
  split at h; · cases h; subst x; rfl
  cases h
theorem allV_sl {w : World} {b : Nat} (h : Blk w b 97 allV) : Sl w w.heap.size 3 Kd.cells (some ⟨b, 0, none⟩) allK := by
  intro _
  refine ⟨b, 0, rfl, h.lt, fun k x hx j v hv => ?_⟩
  rw [h.cell]
  have hk : k < 5 := (List.getElem?_eq_some_iff.1 hx).1
  have hj : j < 3 := by rw [← Kd.cells_len x]; exact (List.getElem?_eq_some_iff.1 hv).1
  have key : ∀ (k : Fin 5) (j : Fin 3), allV[0 + k.val * 3 + j.val]? = (allK[k.val]?.bind fun x => x.cells[j.val]?) := by
    intro k j
    match k, j with
    | 0, 0 => rfl
    | 0, 1 => rfl
    | 0, 2 => rfl
    | 1, 0 => rfl
    | 1, 1 => rfl
    | 1, 2 => rfl
    | 2, 0 => rfl
    | 2, 1 => rfl
    | 2, 2 => rfl
    | 3, 0 => rfl
    | 3, 1 => rfl
    | 3, 2 => rfl
    | 4, 0 => rfl
    | 4, 1 => rfl
    | 4, 2 => rfl
  rw [key ⟨k, hk⟩ ⟨j, hj⟩, hx]
  exact hv

/-- how far schema has come; b4: the block of all kinds, W: the world ahead of the loop -/
structure SI (s : List UInt8) (W wr : World) (j : Nat) (ks : List Kd) (A : Option Addr) (n c : Nat) : Prop where
  eq : kdsOf s = (kdsOf (s.drop j)).map (ks ++ ·)
  own : OwnA wr 76 3 Kd.cells (.slice A n c) ks
  fr : ∀ k, (Value.slice A n c).ownBlock = some k → W.heap.size ≤ k
  be : Below W.heap.size W wr
  len : ks.length = j
  lim : j = 0 ∨ s.length ≤ 64
theorem SI.up {s : List UInt8} {W wr w4 : World} {j : Nat} {ks : List Kd} {A : Option Addr} {n c : Nat} {o : Obj} (h : SI s W wr j ks A n c) (hb : Below (wr.alloc o).heap.size (wr.alloc o) w4) : Below wr.heap.size wr w4 :=
  ((Below.refl _ wr).alloc (Nat.le_refl _) o).trans (hb.mono (by simp))
theorem SI.out {s : List UInt8} {w W wr w4 : World} {j : Nat} {ks : List Kd} {A : Option Addr} {n c : Nat} {o : Obj} (h : SI s W wr j ks A n c) (hw : Below w.heap.size w W) (hb : Below (wr.alloc o).heap.size (wr.alloc o) w4) : Below w.heap.size w w4 :=
  (hw.trans (h.be.mono hw.size)).trans ((h.up hb).mono (Nat.le_trans hw.size h.be.size))
theorem kds_bad {s : List UInt8} {j : Nat} {ks : List Kd} {x : UInt8} (h : kdsOf s = (kdsOf (s.drop j)).map (ks ++ ·)) (hd : s.drop j = x :: s.drop (j + 1)) (hx : kdOf x.toNat = none) : schemaP s = none := by
  unfold schemaP
  split
  · rw [h, hd, kdsOf, hx]; rfl
  · rfl
theorem kds_next {s : List UInt8} {j : Nat} {ks : List Kd} {x : UInt8} {k : Kd} (h : kdsOf s = (kdsOf (s.drop j)).map (ks ++ ·)) (hd : s.drop j = x :: s.drop (j + 1)) (hx : kdOf x.toNat = some k) : kdsOf s = (kdsOf (s.drop (j + 1))).map ((ks ++ [k]) ++ ·) := by
  rw [h, hd, kdsOf, hx]
  cases kdsOf (s.drop (j + 1)) with
  | none => rfl
  | some r => simp

theorem SI.next {s : List UInt8} {W wr w4 w5 : World} {j : Nat} {ks : List Kd} {A A' : Option Addr} {n c n' c' : Nat} {o : Obj} {x : UInt8} {k : Kd} (h : SI s W wr j ks A n c) (hb : Below wr.heap.size wr w4) (hown : OwnA w5 76 3 Kd.cells (.slice A' n' c') (ks ++ [k]))
    (hc : Chg (fun k => (Value.slice A n c).ownBlock = some k) (w4.alloc o) w5) (hat : (Value.slice A' n' c').ownBlock = (Value.slice A n c).ownBlock ∨ (Value.slice A' n' c').ownBlock = some (w4.alloc o).heap.size)
    (hk : kdOf x.toNat = some k) (hd : s.drop j = x :: s.drop (j + 1)) (h64 : s.length ≤ 64) : SI s W w5 (j + 1) (ks ++ [k]) A' n' c' := by
  have h1 : Below W.heap.size W w4 := ext_under h.be (Nat.le_refl _) (hb.mono (Nat.le_refl _))
  have h2 := h1.alloc h1.size o
  refine ⟨kds_next h.eq hd hk, hown, fun k hk => ?_, h2.trans (hc.below h2.size fun i hi hs => by have := h.fr _ hs; omega), by simp [h.len], .inr h64⟩
  rcases hat with hat | hat
  · exact h.fr k (hat ▸ hk)
  · rw [hat] at hk; injection hk with hk; have := h2.size; omega

set_option maxHeartbeats 4000000 in
set_option maxRecDepth 100000 in
theorem schema_any (s : ByteArray) (w : World) (hs : s.data.toList.length ≤ 1000000) : Calls Try.prog 40 #[.string s] w (RetSc w (schemaP s.data.toList)) := by
  obtain ⟨i0, hi, hz, hz1, hz2⟩ := info_parts kInfo
  obtain ⟨l, hl⟩ : ∃ l, l = s.data.toList := ⟨_, rfl⟩
  rw [← hl] at hs ⊢
  go_enter Try.func40, Try.ntmps40
  go_wp2_with (go_at_call 58; refine (kinds_any _).mono ?_; rintro e w1 ⟨rfl, hb⟩; obtain ⟨cap, W, hcv, hsl, hb2⟩ := conv_bytes s (w1.alloc (.cells allV 97)); have HW : Hid (Blk W w1.heap.size 97 allV ∧ Below w.heap.size w W) := ⟨(Blk.new w1 _ allV).ext hb2, ext_under (hb.alloc hb.size _) (Nat.le_refl _) hb2⟩; rw [World.size_alloc] at hcv hsl; rw [← hl] at hsl; have HS := Lib.hid hsl; clear hb hb2 hsl; simp only [allV, fnV] at hcv ⊢)
  have hsz : Hid (s.size = l.length) := by rw [hl]; rfl
  obtain ⟨n, hn⟩ : ∃ n, n = s.size := ⟨_, rfl⟩
  rw [← hn] at hsz
  clear hl
  have hnl : n ≤ 1000000 := by rw [hsz.out]; exact hs
  clear hcv
  go_loopg [5, 13] n (fun gk vo vj wr => ∃ (j : Nat) (ks : List Kd) (A2 : Option Addr) (n2 c2 : Nat), vj = .int .i64 (j : Int) ∧ vo = .slice A2 n2 c2 ∧ n ≤ j + gk ∧ j ≤ n ∧ Hid (SI l W wr j ks A2 n2 c2))
  case atStart =>
    refine ⟨0, [], none, 0, 0, rfl, rfl, by omega, by omega, ⟨?_, OwnA.nil_ _ _ _ _, (fun k hk => by cases hk), Below.refl _ _, rfl, .inl rfl⟩⟩
    rw [List.drop_zero]
    cases kdsOf l <;> simp
  case round =>
    obtain ⟨j, ks, A2, n2, c2, rfl, rfl, hgk, hj, hSI⟩ := hrel
    by_cases hjn : j < n
    · have hx : l[j]? = some l[j] := List.getElem?_eq_getElem (by rw [← hsz.out]; exact hjn)
      obtain ⟨bb, off, hA, hbb, c0⟩ := BySl.at_ (HS.out.ext hSI.out.be) hx
      cases hA
      rw [Nat.zero_add] at c0
      have HD := Lib.hid (List.drop_eq_getElem_cons (show j < l.length by rw [← hsz.out]; exact hjn))
      generalize l[j] = x at *
      have b0 : (0 : Int) ≤ (j : Int) := Int.natCast_nonneg _
      have b1 : (j : Int) < (n : Int) := by omega
      have hAl := Lib.hid (allV_sl (HW.out.1.ext hSI.out.be))
      have hix : ∀ (w3 : World) (o : Obj), Hid (o = .cells #[.int .u8 (x.toNat : Int)] 5) → Calls Try.prog 59 #[.slice (some ⟨w1.heap.size, 0, none⟩) 5 5, .func (.func 60) #[] #[.pointer (some ⟨wr.heap.size, 0, none⟩)]] (wr.alloc o) fun e w' => e = .returned (.int .i64 (kixF x.toNat allK 0)) ∧ Below (wr.alloc o).heap.size (wr.alloc o) w' := fun w3 o ho => by
        rw [ho.out]
        exact kindIx_any x allK (some ⟨w1.heap.size, 0, none⟩) 5 5 wr.heap.size _ (hAl.out.ext ((Below.refl _ _).alloc (Nat.le_refl _) _)) rfl (by decide) ((Blk.new wr _ _).cell 0)
      clear hx
      cases hk : kdOf x.toNat with
      | none =>
        rw [kix_none hk] at hix
        have ht : Hid (schemaP l = none) := kds_bad hSI.out.eq HD.out hk
        clear hk
        go_wp2_with (go_at_call 59; refine (hix wr _ rfl).mono ?_; rintro e w4 ⟨rfl, hb4⟩)
        refine bodyPost_ret (v := .tuple #[.slice none 0 0, .bool false]) (by simp [results, Try.results40, go_sem]) rfl ⟨hSI.out.out HW.out.2 hb4, by rw [ht.out]⟩
      | some k =>
        rw [kix_some hk] at hix
        by_cases h64 : n ≤ 64
        · have d1 : decide ((64 : Int) < (n : Int)) = false := decide_eq_false (by omega)
          have hq := Lib.hid (And.intro k.idx_at k.idx_lt)
          have hat4 : ∀ W4, Hid (Below wr.heap.size wr W4) → Hid (W4.cell? ⟨w1.heap.size, k.idx * 3, none⟩ = some (.int .u8 (k.byte : Int)) ∧ W4.cell? ⟨w1.heap.size, k.idx * 3 + 1, none⟩ = some (fnV k.put) ∧ W4.cell? ⟨w1.heap.size, k.idx * 3 + 2, none⟩ = some (fnV k.take)) := fun W4 h4 => by
            obtain ⟨b5, o5, h5, _, e0, e1, e2⟩ := Kd.at_ (hAl.out.ext h4.out) hq.out.1
            cases h5
            simp only [Nat.zero_add] at e0 e1 e2
            exact ⟨e0, e1, e2⟩
          have q1 : ¬ ((k.idx : Int) < 0) := by omega
          have q0 : (0 : Int) ≤ (k.idx : Int) := by omega
          have q2 : (k.idx : Int) < 5 := by have := k.idx_lt; omega
          have hkd := Lib.hid hk
          have hln := Lib.hid hSI.out.len
          have h1 : Hid (ks.length + [k].length ≤ maxLen) := by rw [Hid, hln.out]; simp [maxLen]; omega
          have h2 : Hid ((ks.length + [k].length) * 24 ≤ 140737488355328) := by rw [Hid, hln.out]; simp; omega
          generalize k.idx = q at *
          clear hk hAl hq
          go_wp2_with (first | (go_at_call 59; refine (hix wr _ rfl).mono ?_; rintro e w4 ⟨rfl, hb4⟩; have hbw : Hid (Below wr.heap.size wr w4) := hSI.out.up hb4; have hc4 := hat4 w4 hbw; obtain ⟨e0, e1, e2⟩ := hc4.out; unfold fnV at e1 e2; clear hb4 hc4) | (at_builtin; refine wpList_append_a _ rfl _ _ _ rfl 76 i0 _ 3 24 Try.underlying70 hi hz hz1 hz2 rfl (by decide) Kd.cells_len Kd.cells_one _ ks (by rfl) ((hSI.out.own.ext hbw.out).alloc _) _ (some ⟨w4.heap.size, 0, none⟩) [k] 1 1 (by rfl) rfl (lit_one w4 k 76 rfl) h1.out h2.out ?_; intro v' w' hown' hchg hat; obtain ⟨A3, n3, c3', rfl, hn3, hle3, hmx3, hnil3⟩ := hown'.form; have HA := Lib.hid (And.intro hown' (And.intro hchg hat)); clear hown' hchg hat))
          go_roundg (gk - 1)
          case measure => omega
          case rel => exact ⟨j + 1, ks ++ [k], A3, n3, c3', by go_num, rfl, by omega, by omega, hSI.out.next hbw.out HA.out.1 HA.out.2.1 HA.out.2.2 hkd.out HD.out (by rw [← hsz.out]; exact h64)⟩
        · have d1 : decide ((64 : Int) < (n : Int)) = true := decide_eq_true (by omega)
          have ht : Hid (schemaP l = none) := by unfold Hid schemaP; rw [if_neg (by rw [← hsz.out]; exact h64)]
          have q1 : ¬ ((k.idx : Int) < 0) := by omega
          generalize k.idx = q at *
          clear hk
          go_wp2_with (go_at_call 59; refine (hix wr _ rfl).mono ?_; rintro e w4 ⟨rfl, hb4⟩)
          refine bodyPost_ret (v := .tuple #[.slice none 0 0, .bool false]) (by simp [results, Try.results40, go_sem]) rfl ⟨hSI.out.out HW.out.2 hb4, by rw [ht.out]⟩
    · have ht : Hid (schemaP l = some ks) := by
        have h1 := hSI.out.eq
        have h2 := hSI.out.lim
        have h3 := hsz.out
        unfold Hid schemaP
        rw [if_pos (by omega), h1, List.drop_of_length_le (by omega), kdsOf]
        simp
      have b1 : ¬ (j : Int) < (n : Int) := by omega
      go_wp2
      refine bodyPost_ret (v := .tuple #[.slice A2 n2 c2, .bool true]) (by simp [results, Try.results40, go_sem]) rfl ⟨HW.out.2.trans (hSI.out.be.mono HW.out.2.size), ?_⟩
      rw [ht.out]
      exact ⟨_, rfl, hSI.out.own, fun k hk => Nat.le_trans HW.out.2.size (hSI.out.fr k hk)⟩
end Go.Proofs.Ytiommdidkhohgaa.Wire
