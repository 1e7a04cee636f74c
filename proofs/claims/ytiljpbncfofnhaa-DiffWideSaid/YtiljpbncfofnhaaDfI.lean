/- diff: the difference, in memory. -/
import Derived.Test.YtiljpbncfofnhaaDfH
import Derived.Outline
import Derived.BigQuiet
import Derived.Deep.QuietTactic
import Derived.Deep.RegionWith
import Derived.Deep.RegionHeld3
import Derived.Deep.DrawnRows
import Derived.Deep.LoopGhost
import Derived.Deep.DeepCutAuto
import Derived.Laws.EntriesVeiled
import Derived.BigRegion
import Derived.BigQuiet
import Derived.Deep.RegionLaw
namespace Go.Proofs.Ytiljpbncfofnhaa.Dif
open Go.RowKit Go.ChangeShapes Go.WideShapes Go.ChangeAt
set_option linter.unusedVariables false
set_option linter.unusedSimpArgs false
attribute [local go_sem ↓] Go.wp_at_zero Go.wp_at_succ
open FragA FragB MayA Tree EdC EdB
attribute [local go_sem ↓] frEq'
attribute [local go_sem] frGuard


/-- the call hands back edits of its own, and the error number -/
def RetDf (w : World) (x : List Ed × Int) (e : Ending) (w' : World) : Prop :=
  ∃ A n c, e = .returned (.tuple #[.slice A n c, .int .i64 x.2]) ∧ OwnA w' 69 12 Ed.cells (.slice A n c) x.1 ∧ (∀ g, (Value.slice A n c).ownBlock = some g → w.heap.size ≤ g) ∧ Below w.heap.size w w'
theorem OwnA.keptD {w w' : World} {v : Value} {l : List (Nat × Nat)} (h : OwnA w 87 2 encP v l) (hk : KeptD w w') : OwnA w' 87 2 encP v l := by
  rcases h with hn | ⟨g, off, cap, cur, rfl, hgg, rest⟩
  · exact .inl hn
  · exact .inr ⟨g, off, cap, cur, rfl, hk g _ hgg (fun cs x e => by injection e with _ e; revert e; decide) (fun cs x e => by injection e with _ e; revert e; decide), rest⟩
theorem KMap.keptD {w w' : World} {r : Nat} {ks : List ((Int × Int) × Int)} (h : KMap w r ks) (hk : KeptD w w') : KMap w' r ks := by
  obtain ⟨es, c, h, he⟩ := h
  exact ⟨es, c, hk r _ h (fun _ _ e => nomatch e) (fun _ _ e => nomatch e), he⟩
/-- the memory of Diff, and where it is -/
structure DfIn (w wr : World) (g r : Nat) (a b : List Fr) (j at_ : Nat) (st : List (Nat × Nat)) (s : List Ed) (v : Value) : Prop where
  sc : ScIn w wr g s
  km : KMap wr r (placesL a 0)
  own : OwnA wr 87 2 encP v st
  eq : diffL a b = diffGo a (b.drop j) j at_ st s
  st_lt : ∀ x ∈ st, x.1 < a.length
  bd : ∀ e ∈ s, 0 ≤ e.n ∧ e.n ≤ (2048 + j : Nat)
  len : s.length ≤ 2 * j
theorem ScIn.be {w0 w : World} {g : Nat} {s : List Ed} (h : ScIn w0 w g s) : Below w0.heap.size w0 w := by
  obtain ⟨v, h⟩ := h
  exact h.be
theorem bd_mono {s : List Ed} {k k' : Nat} (h : ∀ e ∈ s, 0 ≤ e.n ∧ e.n ≤ (k : Int)) (hk : k ≤ k') : ∀ e ∈ s, 0 ≤ e.n ∧ e.n ≤ (k' : Int) := fun e he => by
  have := h e he
  omega
theorem bd_snoc {s : List Ed} {k : Nat} (h : ∀ e ∈ s, 0 ≤ e.n ∧ e.n ≤ (k : Int)) {x : Ed} (hx : 0 ≤ x.n ∧ x.n ≤ (k : Int)) : ∀ e ∈ s ++ [x], 0 ≤ e.n ∧ e.n ≤ (k : Int) := fun e he => by
  rcases List.mem_append.1 he with he | he
  · exact h e he
  · rw [List.mem_singleton] at he; subst he; exact hx
theorem bd_skip {s : List Ed} {k : Nat} (h : ∀ e ∈ s, 0 ≤ e.n ∧ e.n ≤ (k : Int)) {n : Int} (hn : n ≤ (k : Int)) : ∀ e ∈ skipD s n, 0 ≤ e.n ∧ e.n ≤ (k : Int) := by
  unfold skipD
  split
  · exact bd_snoc h ⟨by simp only; omega, hn⟩
  · exact h
theorem bd_keep {s : List Ed} {k : Nat} (h : ∀ e ∈ s, 0 ≤ e.n ∧ e.n ≤ (k : Int)) : ∀ e ∈ keepD s, 0 ≤ e.n ∧ e.n ≤ ((k + 1 : Nat) : Int) := by
  have h' := bd_mono h (Nat.le_succ k)
  unfold keepD
  cases hl : s.getLast? with
  | none => exact bd_snoc h' ⟨(by decide : (0 : Int) ≤ 1), by simp only; omega⟩
  | some e =>
    simp only
    split
    · have he := h e (List.mem_of_getLast? hl)
      exact bd_snoc (fun x hx => h' x (List.dropLast_subset s hx)) ⟨by simp only; omega, by simp only; omega⟩
    · exact bd_snoc h' ⟨(by decide : (0 : Int) ≤ 1), by simp only; omega⟩
theorem bd_become {s : List Ed} {k : Nat} (h : ∀ e ∈ s, 0 ≤ e.n ∧ e.n ≤ (k : Int)) (f q : Fr) : ∀ e ∈ becomeD s f q, 0 ≤ e.n ∧ e.n ≤ ((k + 1 : Nat) : Int) := by
  have h' := bd_mono h (Nat.le_succ k)
  unfold becomeD
  split
  · exact bd_keep h
  · split <;> exact bd_snoc h' ⟨Int.le_refl 0, by simp only; omega⟩
theorem bd_new {s : List Ed} {k : Nat} (h : ∀ e ∈ s, 0 ≤ e.n ∧ e.n ≤ (k : Int)) (a : List Fr) (q : Fr) : ∀ e ∈ newD a s q, 0 ≤ e.n ∧ e.n ≤ ((k + 1 : Nat) : Int) := by
  have h' := bd_mono h (Nat.le_succ k)
  unfold newD
  split <;> exact bd_snoc h' ⟨Int.le_refl 0, by simp only; omega⟩
theorem len_skip (s : List Ed) (n : Int) : (skipD s n).length ≤ s.length + 1 := by unfold skipD; split <;> simp
theorem len_keep (s : List Ed) : (keepD s).length ≤ s.length + 1 := by
  unfold keepD
  cases hl : s.getLast? with
  | none => simp
  | some e => simp only; split <;> simp
theorem len_become (s : List Ed) (f q : Fr) : (becomeD s f q).length ≤ s.length + 1 := by
  unfold becomeD
  split
  · exact len_keep s
  · split <;> simp
theorem len_new (a : List Fr) (s : List Ed) (q : Fr) : (newD a s q).length ≤ s.length + 1 := by unfold newD; split <;> simp
/-- is this the place of the next one that stays? -/
def takesD (st : List (Nat × Nat)) (j : Nat) : Bool := match st with
  | [] => false
  | x :: _ => x.2 == j
theorem diffGo_new {a : List Fr} {q : Fr} {r : List Fr} {j at_ : Nat} {st : List (Nat × Nat)} {s : List Ed} (h : takesD st j = false) : diffGo a (q :: r) j at_ st s = diffGo a r (j + 1) at_ st (newD a s q) := by
  rcases st with _ | ⟨⟨i, j'⟩, st⟩
  · rw [diffGo]
  · have h' : ¬ j' = j := by simpa [takesD] using h
    rw [diffGo, if_neg h']
theorem diffGo_take {a : List Fr} {q : Fr} {r : List Fr} {i j at_ : Nat} {st : List (Nat × Nat)} {s : List Ed} {f : Fr} (hf : a[i]? = some f) : diffGo a (q :: r) j at_ ((i, j) :: st) s = diffGo a r (j + 1) (i + 1) st (becomeD (skipD s ((i : Int) - at_)) f q) := by
  rw [diffGo, if_pos rfl]
  simp only [hf]
section
variable {w wr w' : World} {g r : Nat} {a b : List Fr} {j at_ : Nat} {st : List (Nat × Nat)} {s : List Ed} {v : Value}
theorem DfIn.ext (h : DfIn w wr g r a b j at_ st s v) (hb : Below wr.heap.size wr w') : DfIn w w' g r a b j at_ st s v := ⟨h.sc.ext hb, h.km.ext hb, h.own.ext hb, h.eq, h.st_lt, h.bd, h.len⟩
theorem DfIn.new (h : DfIn w wr g r a b j at_ st s v) {q : Fr} (hx : b[j]? = some q) (ht : takesD st j = false) (hsc : ScIn w w' g (newD a s q)) (hk : KeptD wr w') : DfIn w w' g r a b (j + 1) at_ st (newD a s q) v :=
  ⟨hsc, h.km.keptD hk, OwnA.keptD h.own hk, by rw [h.eq, drop_at hx, diffGo_new ht], h.st_lt, bd_new h.bd a q, by have := len_new a s q; have := h.len; omega⟩
end
theorem stayL_lt {a b : List Fr} : ∀ x ∈ stayL a b, x.1 < a.length := fun x hx => by
  unfold stayL at hx
  obtain ⟨h1, h2, h3, gg, h4⟩ := selL_mem _ _ _ _ x hx
  rw [List.getElem?_zip_eq_some] at h4
  have h5 := List.mem_of_getElem? h4.1
  obtain ⟨q, _, e⟩ := List.mem_map.1 h5
  obtain ⟨_, f, hf, _⟩ := fromL_some e
  exact (List.getElem?_eq_some_iff.1 hf).1
set_option maxRecDepth 100000 in
theorem diff_no (a b : List Fr) (A B : Option Addr) (na ca nb cb : Nat) (w : World) (ha : FrSl w w.heap.size A a) (hwa : FrsWf a) (hna : Hid (na = a.length)) (hb : FrSl w w.heap.size B b) (hwb : FrsWf b) (hnb : Hid (nb = b.length)) (h0 : chk a ≠ 0 ∨ chk b ≠ 0) :
    Calls Try.prog 52 #[.slice A na ca, .slice B nb cb] w (RetDf w (diffE a b)) := by
  have hE : Hid (diffE a b = ([], 200)) := by rw [Hid, diffE, if_pos h0]
  have HC := Lib.hid (stay_any a b A B na ca nb cb w ha hwa hna hb hwb hnb)
  rw [stayE, if_pos h0] at HC
  clear h0 ha hb
  go_enter Try.func52, Try.ntmps52
  go_wp2_with fail
  refine (HC.out).mono ?_; rintro e w1 ⟨v, rfl, hown, hfr, hb1⟩
  have HB := Lib.hid hb1
  clear hb1 hown hfr
  go_wp2
  refine bodyPost_ret (by simp [results, Try.results52, go_sem]; rfl) rfl ?_
  rw [hE.out]
  exact ⟨none, 0, 0, rfl, OwnA.nil_ _ _ _ _, (fun g h => nomatch h), HB.out⟩
theorem DfIn.take {w wr w5 w6 : World} {g r i : Nat} {a b : List Fr} {j at_ : Nat} {st : List (Nat × Nat)} {s : List Ed} {A1 : Option Addr} {n1 c1 : Nat} {q f : Fr} (h : DfIn w wr g r a b j at_ ((i, j) :: st) s (.slice A1 n1 c1)) (hx : b[j]? = some q) (hf : a[i]? = some f) (ha : a.length ≤ 2048) (hb : Below wr.heap.size wr w5) (hk : KeptD w5 w6) (hsc : ScIn w w6 g (becomeD (skipD s ((i : Int) - at_)) f q)) :
    DfIn w w6 g r a b (j + 1) (i + 1) st (becomeD (skipD s ((i : Int) - at_)) f q) (.slice (cutA A1 c1 1 2) (n1 - 1) (c1 - 1)) := by
  have h2 := OwnA.keptD (h.own.ext hb) hk
  have hi := (List.getElem?_eq_some_iff.1 hf).1
  refine ⟨hsc, (h.km.ext hb).keptD hk, h2.cut encP_len 1 (by simp), by rw [h.eq, drop_at hx, diffGo_take hf], fun x hx => h.st_lt x (List.mem_cons_of_mem _ hx), ?_, ?_⟩
  · exact bd_become (bd_skip h.bd (by omega)) f q
  · have h3 := len_become (skipD s ((i : Int) - at_)) f q
    have h4 := len_skip s ((i : Int) - at_)
    have := h.len
    omega
theorem run_tail (A : Option Addr) (n cap : Nat) (hn : 1 ≤ n) (W : World) : (Instr.slice 80 (.slice A n cap) (some (.int .i64 1)) none none).run Try.prog W = .ok (.slice (cutA A cap 1 2) (n - 1) (cap - 1)) W := by
  obtain ⟨i0, hi, _⟩ := info_parts pairInfo
  exact run_slice_lo Try.underlying80 ⟨i0, hi⟩ (by kernel_rfl) A n cap 1 (by decide) (by omega) W
theorem run_clip (A : Option Addr) (n cap : Nat) (hn : n ≤ cap) (W : World) : (Instr.slice 126 (.slice A n cap) none (some (.int .i64 (n : Int))) (some (.int .i64 (n : Int)))).run Try.prog W = .ok (.slice A n n) W := by
  obtain ⟨i0, hi, _⟩ := info_parts edInfo
  have h := run_slice_him Try.underlying126 ⟨i0, hi⟩ (c := 12) (by kernel_rfl) A n cap n n (by omega) (Int.le_refl _) (by omega) W
  simpa using h
set_option maxRecDepth 100000 in
set_option maxHeartbeats 8000000 in
theorem diff_yes (a b : List Fr) (A B : Option Addr) (na ca nb cb : Nat) (w : World) (ha : FrSl w w.heap.size A a) (hwa : FrsWf a) (hna : Hid (na = a.length)) (hb : FrSl w w.heap.size B b) (hwb : FrsWf b) (hnb : Hid (nb = b.length)) (h0 : chk a = 0) (h1 : chk b = 0) :
    Calls Try.prog 52 #[.slice A na ca, .slice B nb cb] w (RetDf w (diffE a b)) := by
  have hE : Hid (diffE a b = (diffL a b, 0)) := by rw [Hid, diffE, if_neg (by simp [h0, h1])]
  have HC := Lib.hid (stay_any a b A B na ca nb cb w ha hwa hna hb hwb hnb)
  rw [stayE, if_neg (by simp [h0, h1])] at HC
  have hna2 : na ≤ 2048 := by rw [hna.out]; exact (FCheck.chk_zero h0).2.2
  have hnb2 : nb ≤ 2048 := by rw [hnb.out]; exact (FCheck.chk_zero h1).2.2
  have HP := fun W (hW : Below w.heap.size w W) => Lib.hid (places_any a A na ca W ((Sl.below ha hW).more hW.size) (keys_of_chk h0) hna (by unfold maxLen; omega))
  clear h0 h1
  have HA := Lib.hid ha
  have HBs := Lib.hid hb
  clear ha hb
  go_enter Try.func52, Try.ntmps52
  go_wp2_with fail
  refine (HC.out).mono ?_; rintro e w1 ⟨v, rfl, hown, hfr, hb1⟩
  obtain ⟨A1, n1, c1, rfl, _, _, _, _⟩ := hown.form
  have HB := Lib.hid (And.intro hb1 (And.intro hown hfr))
  clear hb1 hown hfr
  go_wp2_with fail
  refine ((HP _ HB.out.1).out).mono ?_; rintro e w2 ⟨r, rfl, hr, hkm, hb2⟩
  have HK := Lib.hid (And.intro hkm (And.intro hb2 (ext_under HB.out.1 (Nat.le_refl _) hb2)))
  clear hkm hb2 hr HP HC
  have HS : Hid (DfIn w (w2.alloc (.cells #[.slice none 0 0] 126)) w2.heap.size r a b 0 0 (stayL a b) [] (.slice A1 n1 c1)) := by
    have hbe := EdF.below_a w2 (.cells #[.slice none 0 0] 126)
    have hs := HK.out.2.2.size
    refine ⟨⟨.slice none 0 0, Blk.new w2 _ _, OwnA.nil_ _ _ _ _, hs, (fun b h => nomatch h), ext_under HK.out.2.2 (Nat.le_refl _) hbe⟩, HK.out.1.ext hbe, (HB.out.2.1.ext HK.out.2.1).ext hbe, rfl, stayL_lt, (fun e h => nomatch h), Nat.le_refl _⟩
  clear HK HB
  obtain ⟨i0, hi0, hz, hz1, hz2⟩ := info_parts edInfo
  go_wp2
  go_loopg [6, 10, 29] nb (fun gh v6 v10 v29 wr => ∃ (j at_ : Nat) (st : List (Nat × Nat)) (s : List Ed) (A6 : Option Addr) (n6 c6 : Nat), nb ≤ j + gh ∧ j ≤ nb ∧ at_ ≤ 2048 ∧ v6 = .slice A6 n6 c6 ∧ v10 = .int .i64 (at_ : Int) ∧ v29 = .int .i64 (j : Int) ∧ Hid (DfIn w wr w2.heap.size r a b j at_ st s (.slice A6 n6 c6)))
  case atStart => exact ⟨0, 0, _, _, _, _, _, by omega, by omega, by omega, rfl, rfl, rfl, HS⟩
  case round =>
    clear HS
    obtain ⟨j, at_, st, s, A6, n6, c6, hg, hjn, hat, rfl, rfl, rfl, HS⟩ := hrel
    generalize w2.heap.size = g at *
    by_cases hlt : j < nb
    · have hjl : j < b.length := by rw [← hnb.out]; exact hlt
      obtain ⟨q, hx⟩ : ∃ q, b[j]? = some q := ⟨_, List.getElem?_eq_getElem hjl⟩
      have hbe := HS.out.sc.be
      obtain ⟨bb, off, rfl, hbb, c0, c1', c2, c3, c4, c5, c6', c7⟩ := FrSl.at_ ((Sl.below HBs.out hbe).more hbe.size) hx
      have d1 : (0 : Int) ≤ (j : Int) := Int.natCast_nonneg _
      have d2 : (j : Int) < (nb : Int) := by omega
      have HX := Lib.hid hx
      have hl6 : n6 = st.length := OwnA.len HS.out.own
      have HL6 := Lib.hid hl6
      clear hx hbe hjl hl6
      go_upto_region 10 with fail
      have HB1 := Lib.hid (EdF.below_a wr (.cells #[.int .i64 q.node, .int .i64 q.part, .int .i64 q.depth, .int .i64 q.x, .int .i64 q.y, .int .i64 q.w, .int .i64 q.h, .string q.text] 67))
      have HS1 := Lib.hid (HS.out.ext HB1.out)
      have HQ1 : Hid (Blk (wr.alloc (.cells #[.int .i64 q.node, .int .i64 q.part, .int .i64 q.depth, .int .i64 q.x, .int .i64 q.y, .int .i64 q.w, .int .i64 q.h, .string q.text] 67)) wr.heap.size 67 q.cells.toArray) := Blk.new wr 67 q.cells.toArray
      have hgb : wr.heap.size < (wr.alloc (.cells #[.int .i64 q.node, .int .i64 q.part, .int .i64 q.depth, .int .i64 q.x, .int .i64 q.y, .int .i64 q.w, .int .i64 q.h, .string q.text] 67)).heap.size := by simp
      clear HB1 HS c0 c1' c2 c3 c4 c5 c6' c7
      obtain ⟨x0, x1, x2, x3, x4, x5, x6, x7⟩ := EdC.fbox_cells HQ1.out
      generalize wr.alloc (.cells #[.int .i64 q.node, .int .i64 q.part, .int .i64 q.depth, .int .i64 q.x, .int .i64 q.y, .int .i64 q.w, .int .i64 q.h, .string q.text] 67) = w4 at *
      generalize wr.heap.size = gb at *
      obtain ⟨tk, htk⟩ : ∃ tk, Hid (takesD st j = tk) := ⟨_, rfl⟩
      go_cut [44] (fun s44 wx => s44 = .bool tk ∧ w4 = wx)
      case first =>
        rcases st with _ | ⟨⟨i, j'⟩, st⟩
        · have e6 : n6 = 0 := HL6.out
          have ht : false = tk := htk.out
          clear HL6 HS1 HQ1 x0 x1 x2 x3 x4 x5 x6 x7
          subst e6
          subst ht
          go_wp2
          go_meet
          exact ⟨rfl, rfl⟩
        · obtain ⟨pg, po, rfl, hpg, y0, y1⟩ := PSl.at_ (HS1.out.own.sl encP_len) (k := 0) rfl
          have e6 : 0 < n6 := by have := HL6.out; simp at this; omega
          have e7 : decide (0 < n6) = true := decide_eq_true e6
          have e8 : (0 : Int) < (n6 : Int) := by omega
          simp only [Nat.zero_mul, Nat.add_zero] at y0 y1
          have ht : Hid ((j' == j) = tk) := htk
          clear HL6 HS1 HQ1 x0 x1 x2 x3 x4 x5 x6 x7 htk
          by_cases hj : j' = j
          · have hj1 : ((j' : Int) == (j : Int)) = true := by simp [hj]
            have hj2 : (j' == j) = true := by simp [hj]
            have ht2 : true = tk := by rw [← ht.out, hj2]
            clear hj ht
            subst ht2
            go_wp2
            go_meet
            exact ⟨rfl, rfl⟩
          · have hj1 : ((j' : Int) == (j : Int)) = false := by simp; omega
            have hj2 : (j' == j) = false := by simpa using hj
            have ht2 : false = tk := by rw [← ht.out, hj2]
            clear hj ht
            subst ht2
            go_wp2
            go_meet
            exact ⟨rfl, rfl⟩
      case rest =>
        obtain ⟨rfl, rfl⟩ := hcut
        cases tk with
        | true =>
          rcases st with _ | ⟨⟨i, j'⟩, st⟩
          · exact absurd htk.out (by simp [takesD])
          · have hj : j' = j := by simpa [takesD] using htk.out
            subst hj
            have hil := HS1.out.st_lt (i, j') List.mem_cons_self
            obtain ⟨f, hf⟩ : ∃ f, a[i]? = some f := ⟨_, List.getElem?_eq_getElem hil⟩
            obtain ⟨pg, po, rfl, hpg, y0, y1⟩ := PSl.at_ (HS1.out.own.sl encP_len) (k := 0) rfl
            simp only [Nat.zero_mul, Nat.add_zero] at y0 y1
            have e6 : 0 < n6 := by have := HL6.out; simp at this; omega
            have e8 : (0 : Int) < (n6 : Int) := by omega
            obtain ⟨n7, hn7⟩ : ∃ n7, Hid (n6 - 1 = n7) := ⟨_, rfl⟩
            obtain ⟨c7', hc7⟩ : ∃ c7, Hid (c6 - 1 = c7) := ⟨_, rfl⟩
            obtain ⟨A7, hA7⟩ : ∃ A7, Hid (cutA (some ⟨pg, po, none⟩) c6 1 2 = A7) := ⟨_, rfl⟩
            have HT := run_tail (some ⟨pg, po, none⟩) n6 c6 (by omega)
            rw [hn7.out, hc7.out, hA7.out] at HT
            have HF := Lib.hid hf
            have HIl : Hid (i < a.length) := hil
            have w8 : IntKind.i64.wrap ((i : Int) - (at_ : Int)) = (i : Int) - (at_ : Int) := IntWalk.i64_in _ (by rw [← hna.out] at hil; simp only at hil; omega)
            have w9 : IntKind.i64.wrap ((i : Int) + 1) = ((i + 1 : Nat) : Int) := by rw [IntWalk.i64_in _ (by rw [← hna.out] at hil; simp only at hil; omega)]; omega
            have hi1 : (0 : Int) ≤ (i : Int) := Int.natCast_nonneg _
            have hi2 : (i : Int) < (na : Int) := by rw [hna.out]; simp only at hil; omega
            have hi3 : i + 1 ≤ 2048 := by rw [← hna.out] at hil; simp only at hil; omega
            have hbd : ∀ e ∈ skipD s ((i : Int) - at_), 0 ≤ e.n ∧ e.n ≤ 1000000 := fun e he => by
              have := bd_skip HS1.out.bd (n := (i : Int) - at_) (by omega) e he
              omega
            have hln : (skipD s ((i : Int) - at_)).length ≤ 100000000 := by have := len_skip s ((i : Int) - at_); have := HS1.out.len; omega
            have HK := Lib.hid (skip_any HS1.out.sc ((i : Int) - (at_ : Int)) (by have := HS1.out.len; omega))
            have HBD := Lib.hid (And.intro hbd hln)
            clear hf hil hbd hln x0 x1 x2 x3 x4 x5 x6 x7 htk HL6
            go_wp2_with fail
            refine (HK.out).mono ?_; rintro e w5 ⟨rfl, h5, hk5⟩
            have hbe := h5.be
            have hq5 := hk5.blk HQ1.out (by decide) (by decide)
            obtain ⟨x0, x1, x2, x3, x4, x5, x6, x7⟩ := EdC.fbox_cells hq5
            have hgb5 := hq5.lt
            obtain ⟨ab, aoff, rfl, hab, z0, z1, z2, z3, z4, z5, z6, z7⟩ := FrSl.at_ ((Sl.below HA.out hbe).more hbe.size) HF.out
            have H5 := Lib.hid (And.intro h5 (And.intro hk5 hq5))
            clear h5 hk5 hq5 hbe HK
            go_wp2_with fail
            refine Uni.region (last := 5) (S := fun w' => Below w5.heap.size w5 w') (by kernel_rfl) ((Below.refl _ _).drew) ?_
            try simp only [Act.put, List.setIfInBounds_toArray, List.set_cons_zero, List.set_cons_succ]
            (refine Uni.WU.take (i := 0) (oi := { dst := some 55, op := _, type := _, pos := _, after := _, guard := _ }) (v := ?_) rfl (by kernel_rfl) (by kernel_rfl) (by decide) (by kernel_rfl) (by kernel_rfl) (Uni.Uni.run (by kernel_rfl) (by intro W' hS'; obtain ⟨hq1, hq2⟩ := EdC.bcellD hS'; go_simp; try with_reducible rfl)) ?_; (try simp only [Act.put, List.setIfInBounds_toArray, List.set_cons_zero, List.set_cons_succ]))
            (refine Uni.WU.take (i := 1) (oi := { dst := some 56, op := _, type := _, pos := _, after := _, guard := _ }) (v := ?_) rfl (by kernel_rfl) (by kernel_rfl) (by decide) (by kernel_rfl) (by kernel_rfl) (Uni.Uni.run (by kernel_rfl) (by intro W' hS'; obtain ⟨hq1, hq2⟩ := EdC.bcellD hS'; go_simp; try with_reducible rfl)) ?_; (try simp only [Act.put, List.setIfInBounds_toArray, List.set_cons_zero, List.set_cons_succ]))
            (refine Uni.WU.take (i := 2) (oi := { dst := some 57, op := _, type := _, pos := _, after := _, guard := _ }) (v := ?_) rfl (by kernel_rfl) (by kernel_rfl) (by decide) (by kernel_rfl) (by kernel_rfl) (Uni.Uni.run (by kernel_rfl) (by intro W' hS'; obtain ⟨hq1, hq2⟩ := EdC.bcellD hS'; go_simp; try with_reducible rfl)) ?_; (try simp only [Act.put, List.setIfInBounds_toArray, List.set_cons_zero, List.set_cons_succ]))
            (refine Uni.WU.take (i := 3) (oi := { dst := some 58, op := _, type := _, pos := _, after := _, guard := _ }) (v := ?_) rfl (by kernel_rfl) (by kernel_rfl) (by decide) (by kernel_rfl) (by kernel_rfl) (Uni.Uni.run (by kernel_rfl) (by intro W' hS'; obtain ⟨hq1, hq2⟩ := EdC.bcellD hS'; go_simp; try with_reducible rfl)) ?_; (try simp only [Act.put, List.setIfInBounds_toArray, List.set_cons_zero, List.set_cons_succ]))
            (refine Uni.WU.take (i := 4) (oi := { dst := some 59, op := _, type := _, pos := _, after := _, guard := _ }) (v := ?_) rfl (by kernel_rfl) (by kernel_rfl) (by decide) (by kernel_rfl) (by kernel_rfl) (Uni.Uni.run (by kernel_rfl) (by intro W' hS'; obtain ⟨hq1, hq2⟩ := EdC.bcellD hS'; go_simp; try with_reducible rfl)) ?_; (try simp only [Act.put, List.setIfInBounds_toArray, List.set_cons_zero, List.set_cons_succ]))
            refine Uni.WU.last (o := { dst := some 60, op := _, type := _, pos := _, after := _, guard := _ }) rfl rfl (by kernel_rfl) (by kernel_rfl) (fun wx hS => ?_)
            have HBc := become_any (H5.out.1.ext hS) f q HBD.out.1 HBD.out.2
            unfold Fr.agg at HBc
            go_simp
            refine HBc.mono ?_; rintro e w6 ⟨rfl, h6, hk6⟩
            have HN : Hid (DfIn w w6 g r a b (j' + 1) (i + 1) st (becomeD (skipD s ((i : Int) - at_)) f q) (.slice A7 n7 c7')) := by
              have h := HS1.out.take HX.out HF.out (by rw [← hna.out]; exact hna2) (Below.refl _ _) ((H5.out.2.1.trans (KeptD.of_ext hS)).trans hk6) h6
              rw [hn7.out, hc7.out, hA7.out] at h
              exact h
            clear h6 hk6 hS HBc HBD H5
            go_wp2
            go_roundg (gk - 1)
            case measure => omega
            case rel => exact ⟨j' + 1, i + 1, st, _, A7, n7, c7', by omega, by omega, hi3, rfl, rfl, by go_num, HN⟩
        | false =>
          obtain ⟨ex, hex⟩ : ∃ ex, Hid (exactD a q = ex) := ⟨_, rfl⟩
          go_upto_region 16 with fail
          obtain ⟨ki, hki⟩ : ∃ ki, Hid ((atKey q.node q.part (placesL a 0)).getD 0 = ki) := ⟨_, rfl⟩
          obtain ⟨kb, hkb⟩ : ∃ kb, Hid ((atKey q.node q.part (placesL a 0)).isSome = kb) := ⟨_, rfl⟩
          go_cut [14, 15] (fun s14 s15 wx => s14 = .int .i64 ki ∧ s15 = .bool kb ∧ w4 = wx)
          case first =>
            have hlk := run_lookup_keyD w4 HS1.out.km q.node q.part
            rw [hki.out, hkb.out] at hlk
            go_wp2
            go_meet
            exact ⟨rfl, rfl, rfl⟩
          case rest =>
           obtain ⟨rfl, rfl, rfl⟩ := hcut
           go_upto_region 17 with fail
           go_cut [81] (fun s81 wx => s81 = .bool ex ∧ Hid (Below w4.heap.size w4 wx))
           case first =>
            rw [keyAt_places] at hki hkb
            cases hk : keyAt a q with
            | none =>
              rw [hk] at hki hkb
              have he : false = ex := by rw [← hex.out, exactD, hk]
              have e1 : 0 = ki := hki.out
              have e2 : false = kb := hkb.out
              subst he e1 e2
              clear hk hex hki hkb
              refine Uni.region (last := 9) (S := fun w' => Below w4.heap.size w4 w') (by kernel_rfl) ((Below.refl _ _).drew) ?_
              try simp only [Act.put, List.setIfInBounds_toArray, List.set_cons_zero, List.set_cons_succ]
              (refine Uni.WU.take (i := 0) (oi := { dst := some 73, op := _, type := _, pos := _, after := _, guard := _ }) (v := ?_) rfl (by kernel_rfl) (by kernel_rfl) (by decide) (by kernel_rfl) (by kernel_rfl) (Uni.Uni.run (by kernel_rfl) (by intro W' hS'; obtain ⟨hq1, hq2⟩ := EdC.bcellD hS'; go_simp; try with_reducible rfl)) ?_; (try simp only [Act.put, List.setIfInBounds_toArray, List.set_cons_zero, List.set_cons_succ]))
              (refine Uni.WU.take (i := 1) (oi := { dst := some 74, op := _, type := _, pos := _, after := _, guard := _ }) (v := ?_) rfl (by kernel_rfl) (by kernel_rfl) (by decide) (by kernel_rfl) (by kernel_rfl) (Uni.Uni.run (by kernel_rfl) (by intro W' hS'; obtain ⟨hq1, hq2⟩ := EdC.bcellD hS'; go_simp; try with_reducible rfl)) ?_; (try simp only [Act.put, List.setIfInBounds_toArray, List.set_cons_zero, List.set_cons_succ]))
              (refine Uni.WU.take (i := 2) (oi := { dst := some 75, op := _, type := _, pos := _, after := _, guard := _ }) (v := undef) rfl (by kernel_rfl) (by kernel_rfl) (by decide) (by kernel_rfl) (by kernel_rfl) (Uni.Uni.skip (by kernel_rfl)) ?_; (try simp only [Act.put, List.setIfInBounds_toArray, List.set_cons_zero, List.set_cons_succ]))
              (refine Uni.WU.take (i := 3) (oi := { dst := some 76, op := _, type := _, pos := _, after := _, guard := _ }) (v := undef) rfl (by kernel_rfl) (by kernel_rfl) (by decide) (by kernel_rfl) (by kernel_rfl) (Uni.Uni.skip (by kernel_rfl)) ?_; (try simp only [Act.put, List.setIfInBounds_toArray, List.set_cons_zero, List.set_cons_succ]))
              (refine Uni.WU.take (i := 4) (oi := { dst := some 77, op := _, type := _, pos := _, after := _, guard := _ }) (v := undef) rfl (by kernel_rfl) (by kernel_rfl) (by decide) (by kernel_rfl) (by kernel_rfl) (Uni.Uni.skip (by kernel_rfl)) ?_; (try simp only [Act.put, List.setIfInBounds_toArray, List.set_cons_zero, List.set_cons_succ]))
              (refine Uni.WU.take (i := 5) (oi := { dst := some 78, op := _, type := _, pos := _, after := _, guard := _ }) (v := undef) rfl (by kernel_rfl) (by kernel_rfl) (by decide) (by kernel_rfl) (by kernel_rfl) (Uni.Uni.skip (by kernel_rfl)) ?_; (try simp only [Act.put, List.setIfInBounds_toArray, List.set_cons_zero, List.set_cons_succ]))
              (refine Uni.WU.take (i := 6) (oi := { dst := some 79, op := _, type := _, pos := _, after := _, guard := _ }) (v := undef) rfl (by kernel_rfl) (by kernel_rfl) (by decide) (by kernel_rfl) (by kernel_rfl) (Uni.Uni.skip (by kernel_rfl)) ?_; (try simp only [Act.put, List.setIfInBounds_toArray, List.set_cons_zero, List.set_cons_succ]))
              (refine Uni.WU.take (i := 7) (oi := { dst := some 80, op := _, type := _, pos := _, after := _, guard := _ }) (v := undef) rfl (by kernel_rfl) (by kernel_rfl) (by decide) (by kernel_rfl) (by kernel_rfl) (Uni.Uni.skip (by kernel_rfl)) ?_; (try simp only [Act.put, List.setIfInBounds_toArray, List.set_cons_zero, List.set_cons_succ]))
              (refine Uni.WU.take (i := 8) (oi := { dst := some 81, op := _, type := _, pos := _, after := _, guard := _ }) (v := ?_) rfl (by kernel_rfl) (by kernel_rfl) (by decide) (by kernel_rfl) (by kernel_rfl) (Uni.Uni.run (by kernel_rfl) (by intro W' hS'; obtain ⟨hq1, hq2⟩ := EdC.bcellD hS'; go_simp; try with_reducible rfl)) ?_; (try simp only [Act.put, List.setIfInBounds_toArray, List.set_cons_zero, List.set_cons_succ]))
              refine Uni.WU.done (by kernel_rfl) (fun w5 hB5 => ?_) _
              have HB5 := Lib.hid hB5
              clear hB5
              go_wp2
              go_meet
              exact ⟨rfl, HB5⟩
            | some i =>
              obtain ⟨f, hf, -, -⟩ := keyAt_lt hk
              have hil := (List.getElem?_eq_some_iff.1 hf).1
              rw [hk] at hki hkb
              have e1 : (i : Int) = ki := hki.out
              have e2 : true = kb := hkb.out
              obtain ⟨eq, heq⟩ : ∃ eq, Fr.beq f q = eq := ⟨_, rfl⟩
              have he : eq = ex := by
                rw [← hex.out, exactD, hk]
                simp only [hf]
                exact heq.symm
              subst he e1 e2
              have hi1 : (0 : Int) ≤ (i : Int) := Int.natCast_nonneg _
              have hi2 : (i : Int) < (na : Int) := by rw [hna.out]; omega
              have hbe := HS1.out.sc.be
              obtain ⟨ab, aoff, rfl, hab, z0, z1, z2, z3, z4, z5, z6, z7⟩ := FrSl.at_ ((Sl.below HA.out hbe).more hbe.size) hf
              clear hk hex hf hil hbe hki hkb
              refine Uni.region (last := 9) (S := fun w' => Below w4.heap.size w4 w') (by kernel_rfl) ((Below.refl _ _).drew) ?_
              try simp only [Act.put, List.setIfInBounds_toArray, List.set_cons_zero, List.set_cons_succ]
              (refine Uni.WU.take (i := 0) (oi := { dst := some 73, op := _, type := _, pos := _, after := _, guard := _ }) (v := ?_) rfl (by kernel_rfl) (by kernel_rfl) (by decide) (by kernel_rfl) (by kernel_rfl) (Uni.Uni.run (by kernel_rfl) (by intro W' hS'; obtain ⟨hq1, hq2⟩ := EdC.bcellD hS'; go_simp; try with_reducible rfl)) ?_; (try simp only [Act.put, List.setIfInBounds_toArray, List.set_cons_zero, List.set_cons_succ]))
              (refine Uni.WU.take (i := 1) (oi := { dst := some 74, op := _, type := _, pos := _, after := _, guard := _ }) (v := ?_) rfl (by kernel_rfl) (by kernel_rfl) (by decide) (by kernel_rfl) (by kernel_rfl) (Uni.Uni.run (by kernel_rfl) (by intro W' hS'; obtain ⟨hq1, hq2⟩ := EdC.bcellD hS'; go_simp; try with_reducible rfl)) ?_; (try simp only [Act.put, List.setIfInBounds_toArray, List.set_cons_zero, List.set_cons_succ]))
              (refine Uni.WU.take (i := 2) (oi := { dst := some 75, op := _, type := _, pos := _, after := _, guard := _ }) (v := ?_) rfl (by kernel_rfl) (by kernel_rfl) (by decide) (by kernel_rfl) (by kernel_rfl) (Uni.Uni.run (by kernel_rfl) (by intro W' hS'; obtain ⟨hq1, hq2⟩ := EdC.bcellD hS'; go_simp; try with_reducible rfl)) ?_; (try simp only [Act.put, List.setIfInBounds_toArray, List.set_cons_zero, List.set_cons_succ]))
              (refine Uni.WU.take (i := 3) (oi := { dst := some 76, op := _, type := _, pos := _, after := _, guard := _ }) (v := ?_) rfl (by kernel_rfl) (by kernel_rfl) (by decide) (by kernel_rfl) (by kernel_rfl) (Uni.Uni.run (by kernel_rfl) (by intro W' hS'; obtain ⟨hq1, hq2⟩ := EdC.bcellD hS'; go_simp; try with_reducible rfl)) ?_; (try simp only [Act.put, List.setIfInBounds_toArray, List.set_cons_zero, List.set_cons_succ]))
              (refine Uni.WU.take (i := 4) (oi := { dst := some 77, op := _, type := _, pos := _, after := _, guard := _ }) (v := ?_) rfl (by kernel_rfl) (by kernel_rfl) (by decide) (by kernel_rfl) (by kernel_rfl) (Uni.Uni.run (by kernel_rfl) (by intro W' hS'; obtain ⟨hq1, hq2⟩ := EdC.bcellD hS'; go_simp; try with_reducible rfl)) ?_; (try simp only [Act.put, List.setIfInBounds_toArray, List.set_cons_zero, List.set_cons_succ]))
              (refine Uni.WU.take (i := 5) (oi := { dst := some 78, op := _, type := _, pos := _, after := _, guard := _ }) (v := ?_) rfl (by kernel_rfl) (by kernel_rfl) (by decide) (by kernel_rfl) (by kernel_rfl) (Uni.Uni.run (by kernel_rfl) (by intro W' hS'; obtain ⟨hq1, hq2⟩ := EdC.bcellD hS'; go_simp; try with_reducible rfl)) ?_; (try simp only [Act.put, List.setIfInBounds_toArray, List.set_cons_zero, List.set_cons_succ]))
              (refine Uni.WU.take (i := 6) (oi := { dst := some 79, op := _, type := _, pos := _, after := _, guard := _ }) (v := ?_) rfl (by kernel_rfl) (by kernel_rfl) (by decide) (by kernel_rfl) (by kernel_rfl) (Uni.Uni.run (by kernel_rfl) (by intro W' hS'; obtain ⟨hq1, hq2⟩ := EdC.bcellD hS'; go_simp; try with_reducible rfl)) ?_; (try simp only [Act.put, List.setIfInBounds_toArray, List.set_cons_zero, List.set_cons_succ]))
              (refine Uni.WU.take (i := 7) (oi := { dst := some 80, op := _, type := _, pos := _, after := _, guard := _ }) (v := ?_) rfl (by kernel_rfl) (by kernel_rfl) (by decide) (by kernel_rfl) (by kernel_rfl) (Uni.Uni.run (by kernel_rfl) (by intro W' hS'; obtain ⟨hq1, hq2⟩ := EdC.bcellD hS'; go_simp; try with_reducible rfl)) ?_; (try simp only [Act.put, List.setIfInBounds_toArray, List.set_cons_zero, List.set_cons_succ]))
              (refine Uni.WU.take (i := 8) (oi := { dst := some 81, op := _, type := _, pos := _, after := _, guard := _ }) (v := ?_) rfl (by kernel_rfl) (by kernel_rfl) (by decide) (by kernel_rfl) (by kernel_rfl) (Uni.Uni.run (by kernel_rfl) (by intro W' hS'; obtain ⟨hq1, hq2⟩ := EdC.bcellD hS'; go_simp; try with_reducible rfl)) ?_; (try simp only [Act.put, List.setIfInBounds_toArray, List.set_cons_zero, List.set_cons_succ]))
              refine Uni.WU.done (by kernel_rfl) (fun w5 hB5 => ?_) _
              have HB5 := Lib.hid hB5
              clear hB5
              go_wp2
              go_meet
              exact ⟨rfl, HB5⟩
           case rest =>
            obtain ⟨rfl, HB5⟩ := hcut
            have HS5 := Lib.hid (HS1.out.ext HB5.out)
            have HQ5 := Lib.hid (HQ1.out.ext HB5.out)
            have HKa := Lib.hid (KeptD.of_ext HB5.out)
            obtain ⟨z0, z1, z2, z3, z4, z5, z6, z7⟩ := EdC.fbox_cells HQ5.out
            have hgb5 := HQ5.out.lt
            obtain ⟨v, h⟩ := HS5.out.sc
            obtain ⟨A3, n3, c3, rfl, _, _, _, _⟩ := h.own.form
            have hsl : s.length ≤ 100000 := by have := HS5.out.len; omega
            clear x0 x1 x2 x3 x4 x5 x6 x7 HS1 HQ1 HB5
            cases ex with
            | true =>
              have hD : Hid (newD a s q = s ++ [⟨3, 0, q.node, q.part, ⟨0, 0, 0, 0, 0, 0, 0, ⟨#[]⟩⟩⟩]) := by rw [Hid, newD, if_pos hex.out]; rfl
              have a1 : Hid (s.length + [((⟨3, 0, q.node, q.part, ⟨0, 0, 0, 0, 0, 0, 0, ⟨#[]⟩⟩⟩) : Ed)].length ≤ maxLen) := (by rw [Hid]; simp [maxLen]; omega); have a2 : Hid ((s.length + [((⟨3, 0, q.node, q.part, ⟨0, 0, 0, 0, 0, 0, 0, ⟨#[]⟩⟩⟩) : Ed)].length) * 104 ≤ 140737488355328) := (by rw [Hid]; simp; omega); have k0 : wc.cell? ⟨g, 0, none⟩ = some (.slice A3 n3 c3) := h.blk.cell 0; have HO : Hid (∀ o, OwnA (wc.alloc o) 69 12 Ed.cells (.slice A3 n3 c3) s) := fun o => h.own.ext (EdF.below_a _ _); have HL := Lib.hid (ed_lit wc (⟨3, 0, q.node, q.part, ⟨0, 0, 0, 0, 0, 0, 0, ⟨#[]⟩⟩⟩)); have H := Lib.hid h; have HBX : Hid (∀ o, Blk (wc.alloc o) g 126 #[.slice A3 n3 c3]) := fun o => h.blk.ext (EdF.below_a _ _); have hgl := h.blk.lt; clear h
              go_wp2_with (at_builtin; refine wpList_append_a _ rfl _ _ _ rfl 69 i0 _ 12 104 Try.underlying126 hi0 hz hz1 hz2 rfl (by decide) Ed.cells_len Ed.cells_one (.slice A3 n3 c3) s (by rfl) (HO.out _) _ (some ⟨wc.heap.size, 0, none⟩) [(⟨3, 0, q.node, q.part, ⟨0, 0, 0, 0, 0, 0, 0, ⟨#[]⟩⟩⟩ : Ed)] 1 1 (by rfl) rfl HL.out a1.out a2.out ?_; intro v' w9 hown hchg hat; obtain ⟨A9, n9, c9, rfl, _, _, _, _⟩ := hown.form; have hb4 := (HBX.out _).chg hchg (fun e => H.out.own.apart H.out.blk (by decide) e); have m2 : w9.cell? ⟨g, 0, none⟩ = some (.slice A3 n3 c3) := hb4.cell 0; have q2 := hb4.free 0; have HP := Lib.hid (H.out.put (EdF.below_a _ _) hown hchg hat); clear hown hchg hat hb4)
              rw [← hD.out] at HP
              go_roundg (gk - 1)
              case measure => omega
              case rel => exact ⟨j + 1, at_, st, newD a s q, A6, n6, c6, by omega, by omega, by omega, rfl, rfl, by go_num, HS5.out.new HX.out htk.out HP.out.1 HP.out.2⟩
            | false =>
              have hD : Hid (newD a s q = s ++ [⟨2, 0, 0, 0, q⟩]) := by rw [Hid, newD, if_neg (by rw [hex.out]; simp)]
              have a1 : Hid (s.length + [((⟨2, 0, 0, 0, q⟩) : Ed)].length ≤ maxLen) := (by rw [Hid]; simp [maxLen]; omega); have a2 : Hid ((s.length + [((⟨2, 0, 0, 0, q⟩) : Ed)].length) * 104 ≤ 140737488355328) := (by rw [Hid]; simp; omega); have k0 : wc.cell? ⟨g, 0, none⟩ = some (.slice A3 n3 c3) := h.blk.cell 0; have HO : Hid (∀ o, OwnA (wc.alloc o) 69 12 Ed.cells (.slice A3 n3 c3) s) := fun o => h.own.ext (EdF.below_a _ _); have HL := Lib.hid (ed_lit wc (⟨2, 0, 0, 0, q⟩)); have H := Lib.hid h; have HBX : Hid (∀ o, Blk (wc.alloc o) g 126 #[.slice A3 n3 c3]) := fun o => h.blk.ext (EdF.below_a _ _); have hgl := h.blk.lt; clear h
              go_wp2_with (at_builtin; refine wpList_append_a _ rfl _ _ _ rfl 69 i0 _ 12 104 Try.underlying126 hi0 hz hz1 hz2 rfl (by decide) Ed.cells_len Ed.cells_one (.slice A3 n3 c3) s (by rfl) (HO.out _) _ (some ⟨wc.heap.size, 0, none⟩) [(⟨2, 0, 0, 0, q⟩ : Ed)] 1 1 (by rfl) rfl HL.out a1.out a2.out ?_; intro v' w9 hown hchg hat; obtain ⟨A9, n9, c9, rfl, _, _, _, _⟩ := hown.form; have hb4 := (HBX.out _).chg hchg (fun e => H.out.own.apart H.out.blk (by decide) e); have m2 : w9.cell? ⟨g, 0, none⟩ = some (.slice A3 n3 c3) := hb4.cell 0; have q2 := hb4.free 0; have HP := Lib.hid (H.out.put (EdF.below_a _ _) hown hchg hat); clear hown hchg hat hb4)
              rw [← hD.out] at HP
              go_roundg (gk - 1)
              case measure => omega
              case rel => exact ⟨j + 1, at_, st, newD a s q, A6, n6, c6, by omega, by omega, by omega, rfl, rfl, by go_num, HS5.out.new HX.out htk.out HP.out.1 HP.out.2⟩
    · have HF : Hid (diffL a b = skipD s ((a.length : Int) - at_)) := by
        have h := HS.out.eq
        rw [List.drop_of_length_le (by rw [← hnb.out]; omega), diffGo] at h
        exact h
      have HK := Lib.hid (skip_any HS.out.sc ((na : Int) - (at_ : Int)) (by have := HS.out.len; omega))
      have w8 : IntKind.i64.wrap ((na : Int) - (at_ : Int)) = (na : Int) - (at_ : Int) := IntWalk.i64_in _ (by omega)
      have hlen : (skipD s ((na : Int) - (at_ : Int))).length ≤ 100000 := by have := len_skip s ((na : Int) - (at_ : Int)); have := HS.out.len; omega
      rw [← hna.out] at HF
      go_wp2_with fail
      refine (HK.out).mono ?_; rintro e w5 ⟨rfl, ⟨v5, h5⟩, hk5⟩
      obtain ⟨A5, n5, c5, rfl, hn5, hle5, _, _⟩ := h5.own.form
      have HT := fun W => Lib.hid (run_clip A5 n5 c5 hle5 W)
      have HT := fun W => (HT W).out
      have k0 : w5.cell? ⟨g, 0, none⟩ = some (.slice A5 n5 c5) := h5.blk.cell 0
      have H5 := Lib.hid h5
      clear h5 hk5 hn5
      go_wp2
      refine bodyPost_ret (by simp [results, Try.results52, go_sem]; rfl) rfl ?_
      rw [hE.out, HF.out]
      have h6 := H5.out.own.take Ed.cells_len n5 n5 (by rw [OwnA.len H5.out.own]; exact Nat.le_refl _) (Nat.le_refl _) hle5
      rw [OwnA.len H5.out.own, List.take_length] at h6
      refine ⟨A5, n5, n5, rfl, by rw [OwnA.len H5.out.own]; exact h6, fun b hb => H5.out.vf b (by cases A5 with | none => exact hb | some a0 => exact hb), H5.out.be⟩
theorem diff_any (a b : List Fr) (A B : Option Addr) (na ca nb cb : Nat) (w : World) (ha : FrSl w w.heap.size A a) (hwa : FrsWf a) (hna : Hid (na = a.length)) (hb : FrSl w w.heap.size B b) (hwb : FrsWf b) (hnb : Hid (nb = b.length)) :
    Calls Try.prog 52 #[.slice A na ca, .slice B nb cb] w (RetDf w (diffE a b)) := by
  by_cases h0 : chk a = 0
  · by_cases h1 : chk b = 0
    · exact diff_yes a b A B na ca nb cb w ha hwa hna hb hwb hnb h0 h1
    · exact diff_no a b A B na ca nb cb w ha hwa hna hb hwb hnb (.inr h1)
  · exact diff_no a b A B na ca nb cb w ha hwa hna hb hwb hnb (.inl h0)
end Go.Proofs.Ytiljpbncfofnhaa.Dif
