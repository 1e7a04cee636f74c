/- message: the program's Parse. -/
import Derived.Test.YtoneechcclndaaaMsgD
import Derived.StillTailTactics
import Derived.Outline
import Derived.BigQuiet
import Derived.Deep.QuietTactic
import Derived.Deep.RegionWith
import Derived.Deep.RegionHeld3
import Derived.Deep.DrawnRows
import Derived.Deep.LoopGhost
import Derived.Deep.DeepCutAuto
import Derived.Laws.EntriesVeiled
namespace Go.Proofs.Ytoneechcclndaaa.Msg
open Go.RowKit Go.ChangeShapes Go.WideShapes Go.ChangeAt
set_option linter.unusedVariables false
set_option linter.unusedSimpArgs false
attribute [local go_sem ↓] Go.wp_at_zero Go.wp_at_succ
open Go.Shelf Go.Proofs.Ytoneechcclndaaa.Word Go.Proofs.Ytoneechcclndaaa.Wire

theorem pn_any (rs : List Wr) (A : Option Addr) (n c i g : Nat) (w : World) (hc : w.cell? ⟨g, 0, none⟩ = some (.slice A n c)) (hl : Sl w w.heap.size 5 Wr.cells A rs) (hr : ∀ r ∈ rs, r.v.n < p64) (hn : Hid (n = rs.length)) (hm : n ≤ 1000000) (hi : i < n) :
    Calls Try.prog 66 #[.int .i64 (i : Int), .pointer (some ⟨g, 0, none⟩)] w fun e w' => e = .returned (.int .i64 (numM (rs.map Wr.v) i)) ∧ w = w' := by
  have hj : i < rs.length := by rw [← hn.out]; exact hi
  obtain ⟨b, off, rfl, hb, c0, c1, c2, c3, c4⟩ := Wr.at_ hl (List.getElem?_eq_getElem hj)
  have hx := hr _ (List.getElem_mem hj)
  have hN : Hid (numM (rs.map Wr.v) i = ((min rs[i].v.n 1099511627777 : Nat) : Int)) := by
    unfold Hid numM nthN
    rw [List.getD_eq_getElem?_getD, List.getElem?_map, List.getElem?_eq_getElem hj]; rfl
  generalize rs[i] = r at *
  generalize numM (rs.map Wr.v) i = y at *
  clear hl hr hj
  have b0 : (0 : Int) ≤ (i : Int) := Int.natCast_nonneg _
  have b2 : (i : Int) < (n : Int) := by omega
  have b3 : decide (i < n) = true := decide_eq_true hi
  by_cases h : r.v.n ≤ 1099511627777
  · have hy : y = (r.v.n : Int) := by rw [hN.out, Nat.min_eq_left h]
    have d1 : ((1099511627777 : Int) < (r.v.n : Int)) = False := by simp; omega
    have d2 : ((r.v.n : Int) ≤ (1099511627777 : Int)) = True := by simp; omega
    have d3 : min (r.v.n : Int) 1099511627777 = (r.v.n : Int) := by omega
    have d4 : IntKind.i64.wrap (r.v.n : Int) = (r.v.n : Int) := IntWalk.i64_in _ (by omega)
    subst hy
    go_enter Try.func66, Try.ntmps66
    go_wp2
    go_ret
    exact ⟨rfl, rfl⟩
  · have hy : y = 1099511627777 := by rw [hN.out, Nat.min_eq_right (by omega)]; rfl
    have d3 : min (r.v.n : Int) 1099511627777 = 1099511627777 := by omega
    subst hy
    go_enter Try.func66, Try.ntmps66
    go_wp2
    go_ret
    exact ⟨rfl, rfl⟩

/-- what Parse leaves -/
def RetParse (w : World) (x : Ms × Int) (e : Ending) (w' : World) : Prop :=
  Below w.heap.size w w' ∧ ∃ r : Mr, e = .returned (.tuple #[r.agg, .int .i64 x.2]) ∧ r.v = x.1 ∧ OwnA w' 5 1 encB (.slice r.A r.n r.c) r.v.bs ∧ ∀ k, (Value.slice r.A r.n r.c).ownBlock = some k → w.heap.size ≤ k
def mr0 : Mr := ⟨ms0, none, 0, 0⟩
theorem zM (r : Mr) : (Try.prog.info? 48).map (·.size) = some (#[.int .u8 (r.v.kind : Int), .int .i64 r.v.client, .int .i64 r.v.epoch, .int .i64 r.v.width, .int .i64 r.v.seq, .bool r.v.last, .slice r.A r.n r.c] : Array Value).size := by kernel_rfl
theorem one7 (a b c d e : Int) (f : Bool) (A : Option Addr) (n k : Nat) : (#[.int .u8 a, .int .i64 b, .int .i64 c, .int .i64 d, .int .i64 e, .bool f, .slice A n k] : Array Value).all (·.oneCell') = true := by simp [Value.oneCell']
theorem mres (w : World) (g : Nat) (r : Mr) (h : Blk w g 48 (Mr.cells r)) : (loadVar 48 ⟨g, 0, none⟩).run Try.prog w = .ok r.agg w :=
  run_loadVar_row (P := Try.prog) w g _ 48 _ (0, 0) _ h Try.underlying48 rfl (zM r)
theorem RetParse.err {w w1 : World} {t : TypeId} {cs : Array Value} (hx : w1.heap[w.heap.size]? = some (.cells cs t (0, 0))) (hb : Below w.heap.size w w1) : RetParse w (ms0, 240) (.returned (.tuple #[mr0.agg, .int .i64 240])) (w1.setRow w.heap.size #[.int .u8 0, .int .i64 0, .int .i64 0, .int .i64 0, .int .i64 0, .bool false, .slice none 0 0]) :=
  ⟨below_setRow hb (Nat.le_refl _) _, mr0, rfl, rfl, OwnA.nil_ _ _ _ _, fun k hk => by cases hk⟩

theorem up_al {w w1 w2 : World} {x : Obj} (h : w1.heap[w.heap.size]? = some x ∧ Below w.heap.size w w1) (hb : Below w1.heap.size w1 w2) (o : Obj) : Hid ((w2.alloc o).heap[w.heap.size]? = some x ∧ Below w.heap.size w (w2.alloc o)) := by
  have hlt : w.heap.size < w1.heap.size := (Array.getElem?_eq_some_iff.1 h.1).1
  have hb9 := ext_under h.2 (Nat.le_refl _) hb
  exact ⟨(Below.heap_alloc w2 o _ (Nat.lt_of_lt_of_le hlt hb.size)).trans ((hb.block _ hlt).trans h.1), hb9.alloc hb9.size _⟩
theorem up_no {w w1 w2 : World} {x : Obj} (h : w1.heap[w.heap.size]? = some x ∧ Below w.heap.size w w1) (hb : Below w1.heap.size w1 w2) : Hid (w2.heap[w.heap.size]? = some x ∧ Below w.heap.size w w2) := by
  have hlt : w.heap.size < w1.heap.size := (Array.getElem?_eq_some_iff.1 h.1).1
  exact ⟨(hb.block _ hlt).trans h.1, ext_under h.2 (Nat.le_refl _) hb⟩
theorem take1 (l : List UInt8) (h : (takeP [110] l).2.2 = 0) : ∃ v u, takeP [110] l = ([v], u, 0) := by
  have e : takeP [110] l = outT (takeS [.nat] l) := rfl
  rw [e] at h ⊢
  unfold takeS at h ⊢
  cases hk : takeK .nat l with
  | none => rw [hk] at h; cases h
  | some x => obtain ⟨v, u⟩ := x; exact ⟨v, u + 0, rfl⟩
theorem whole_len {k : Kk} {l : List UInt8} (h : (wholeP (schS k) l).2 = 0) : (wholeP (schS k) l).1.length = (ksS k).length := by
  unfold wholeP takeP at h ⊢
  rw [sch_ks] at h ⊢
  simp only at h ⊢
  cases ht : takeS (ksS k) l with
  | none => rw [ht] at h; simp [outT] at h
  | some x =>
    obtain ⟨vs, u⟩ := x
    rw [ht] at h
    simp only [outT] at h ⊢
    have hf := put_takeS (ksS k) l vs u ht
    by_cases hu : u < l.length
    · rw [if_pos ⟨trivial, hu⟩] at h; cases h
    · rw [if_neg (fun h => hu h.2)]; exact (fits_len _ _ hf.2.1).symm
theorem parse_no1 {l : List UInt8} (h : (takeP [110] l).2.2 ≠ 0) : parseM l = (ms0, 240) := by unfold parseM; simp only; rw [if_neg h]
theorem parse_no2 {l : List UInt8} {v : WV} {u : Nat} (h : takeP [110] l = ([v], u, 0)) (hk : kkOf v.n = none) : parseM l = (ms0, 240) := by
  unfold parseM; rw [h]; simp only [if_true]
  have : nthN [v] 0 = v.n := rfl
  rw [this, hk]
theorem parse_no3 {l : List UInt8} {v : WV} {u : Nat} {k : Kk} (h : takeP [110] l = ([v], u, 0)) (hk : kkOf v.n = some k) (hw : (wholeP (schS k) l).2 ≠ 0) : parseM l = (ms0, 240) := by
  unfold parseM; rw [h]; simp only [if_true]
  have : nthN [v] 0 = v.n := rfl
  rw [this, hk]; simp only; rw [if_neg hw]
theorem parse_is {l : List UInt8} {v : WV} {u : Nat} {k : Kk} (h : takeP [110] l = ([v], u, 0)) (hk : kkOf v.n = some k) (hw : (wholeP (schS k) l).2 = 0) : parseM l = if mayK k (ofM v.n k (wholeP (schS k) l).1) then (ofM v.n k (wholeP (schS k) l).1, 0) else (ms0, 240) := by
  unfold parseM; rw [h]; simp only [if_true]
  have : nthN [v] 0 = v.n := rfl
  rw [this, hk]; simp only; rw [if_pos hw]
theorem head_of {w1 : World} {B : Nat} {A1 : Option Addr} {n1 c1 : Nat} {rs : List Wr} {v : WV} (h : rs.map Wr.v = [v] ∧ VOwn B w1 A1 n1 c1 rs) : n1 = 1 ∧ ∃ b off, A1 = some ⟨b, off, none⟩ ∧ b < w1.heap.size ∧ w1.cell? ⟨b, off, none⟩ = some (.int .u64 (v.n : Int)) ∧ v.n < p64 := by
  obtain ⟨h1, h2⟩ := h
  have hl := congrArg List.length h1
  simp only [List.length_map, List.length_cons, List.length_nil] at hl
  match rs, hl with
  | [r], _ =>
    simp only [List.map_cons, List.map_nil, List.cons.injEq, and_true] at h1
    subst h1
    obtain ⟨b, off, hA, hb, c0, _⟩ := Wr.at_ (h2.own.sl Wr.cells_len) (j := 0) (r := r) rfl
    exact ⟨h2.own.len, b, off, hA, hb, by simpa using c0, (h2.ok r (by simp)).wf.1⟩

theorem may_dat (a b d : Int) (f : Bool) (r : Wr) (x : Bool) (W : World) (hn : r.bn = r.v.b.length) (hb : mayB ⟨4, a, b, 0, d, f, r.v.b⟩ = x) : Calls Try.prog 35 #[.agg #[.int .u8 4, .int .i64 a, .int .i64 b, .int .i64 0, .int .i64 d, .bool f, .slice r.bA r.bn r.bc]] W fun e w' => e = .returned (.bool x) ∧ Below W.heap.size W w' :=
  may_v ⟨⟨4, a, b, 0, d, f, r.v.b⟩, r.bA, r.bn, r.bc⟩ x W hb (show 4 ≤ 255 by decide) hn
theorem chg_setRow (w : World) (g : Nat) (cs : Array Value) : Chg (fun k => k = g) w (w.setRow g cs) := ⟨rfl, rfl, rfl, by simp [World.setRow], fun k _ hn => setRow_other w g k cs (fun e => hn (by omega))⟩
theorem up_add {w w6 w8 : World} {x : Obj} {t : TypeId} {cs : Array Value} (h : w6.heap[w.heap.size]? = some x ∧ Below w.heap.size w w6) (hb : Below (w6.alloc (.cells cs t)).drew.drew.heap.size (w6.alloc (.cells cs t)).drew.drew w8) : Hid (w8.heap[w.heap.size]? = some x ∧ Below w.heap.size w w8 ∧ Blk w8 w6.heap.size t cs ∧ Below w6.heap.size w6 w8) := by
  have hx : Below (w6.alloc (.cells cs t)).heap.size (w6.alloc (.cells cs t)) (w6.alloc (.cells cs t)).drew.drew := (Below.refl _ _).drew.drew
  have h1 : Below (w6.alloc (.cells cs t)).heap.size (w6.alloc (.cells cs t)) w8 := hx.trans hb
  have h6 : Below w6.heap.size w6 w8 := (below_1 w6 _).trans (h1.mono (by simp))
  have hn := up_no h h6
  exact ⟨hn.out.1, hn.out.2, (Blk.new w6 t cs).ext h1, h6⟩
theorem nth_of {rs : List Wr} {xs : List WV} {i : Nat} (h : rs.map Wr.v = xs) (hi : i < xs.length) : ∃ r, rs[i]? = some r ∧ xs.getD i wv0 = r.v := by
  subst h
  rw [List.length_map] at hi
  exact ⟨rs[i], List.getElem?_eq_getElem hi, by rw [List.getD_eq_getElem?_getD, List.getElem?_map, List.getElem?_eq_getElem hi]; rfl⟩
theorem may_lit (kd : Nat) (a b c d : Int) (r : Bool) (W : World) (hb : mayB ⟨kd, a, b, c, d, false, []⟩ = r) (hk : kd ≤ 255) : Calls Try.prog 35 #[.agg #[.int .u8 (kd : Int), .int .i64 a, .int .i64 b, .int .i64 c, .int .i64 d, .bool false, .slice none 0 0]] W fun e w' => e = .returned (.bool r) ∧ Below W.heap.size W w' :=
  may_v ⟨⟨kd, a, b, c, d, false, []⟩, none, 0, 0⟩ r W hb hk rfl
theorem up_ad {w w6 w8 : World} {x : Obj} {t : TypeId} {cs : Array Value} (h : w6.heap[w.heap.size]? = some x ∧ Below w.heap.size w w6) (hb : Below (w6.alloc (.cells cs t)).drew.heap.size (w6.alloc (.cells cs t)).drew w8) : Hid (w8.heap[w.heap.size]? = some x ∧ Below w.heap.size w w8 ∧ Blk w8 w6.heap.size t cs) := by
  have h6 := b4_ad hb
  have hn := up_no h h6
  exact ⟨hn.out.1, hn.out.2, blk_1 hb⟩
set_option maxHeartbeats 4000000 in
set_option maxRecDepth 100000 in
theorem parse_any (l : List UInt8) (A : Option Addr) (n cap : Nat) (w : World) (hl : BySl w w.heap.size A l) (hn : Hid (n = l.length)) (hc : n ≤ cap) (hm : n ≤ 1000000000) :
    Calls Try.prog 29 #[.slice A n cap] w (RetParse w (parseM l)) := by
  have HL := Lib.hid hl
  have ht := fun W (h : Below w.heap.size w W) => take_any ⟨#[110]⟩ l A n cap W (by decide) (HL.out.ext h) hn hc (by omega)
  have hs1 : (⟨#[110]⟩ : ByteArray).data.toList = [110] := rfl
  rw [hs1] at ht
  by_cases he : (takeP [110] l).2.2 = 0
  · obtain ⟨v, u, hv⟩ := take1 l he
    rw [hv] at ht
    have HT := Lib.hid ht
    clear ht hl hs1 he
    cases hk : kkOf v.n with
    | none =>
      rw [parse_no2 hv hk]
      have HO := Lib.hid fun W (h : v.n < p64) => of_not v.n W (by unfold p64 at h; omega) hk
      clear hv hk
      go_enter Try.func29, Try.ntmps29
      go_wp2_with (first | ((go_at_call 24; refine (HT.out _ (below_1 w _)).mono ?_; rintro e w1 ⟨hb1, A1, n1, c1, rs, rfl, hrs, hvo⟩; have HB := box_in hb1; have HB2 : Hid (w1.heap[w.heap.size]? = some (.cells #[.int .u8 0, .int .i64 0, .int .i64 0, .int .i64 0, .int .i64 0, .bool false, .slice none 0 0] 48 (0, 0)) ∧ Below w.heap.size w w1) := ⟨HB.out.1, HB.out.2.1⟩; have HV := Lib.hid (And.intro hrs hvo); clear hb1 hrs hvo); obtain ⟨rfl, b1, off1, rfl, hb1, h10, hvp⟩ := head_of HV.out) | (go_at_call 64; refine (HO.out _ hvp).mono ?_; rintro e w2 ⟨rfl, hb2⟩; have HB3 : Hid ((w2.alloc (.cells #[.bool false, .bool false, .bool false, .int .i64 0, .bool false] 99)).heap[w.heap.size]? = some (.cells #[.int .u8 0, .int .i64 0, .int .i64 0, .int .i64 0, .int .i64 0, .bool false, .slice none 0 0] 48 (0, 0)) ∧ Below w.heap.size w (w2.alloc (.cells #[.bool false, .bool false, .bool false, .int .i64 0, .bool false] 99))) := up_al HB2.out hb2 _; clear hb2) | (with_reducible refine wpList_store_row rfl 48 (.tmp 2) (.tmp 31) rfl _ _ rfl rfl 48 _ HB3.out.1 (zM mr0) rfl (one7 _ _ _ _ _ _ _ _ _) ?_))
      exact bodyPost_ret (v := .tuple #[mr0.agg, .int .i64 240]) (results_cell_tmp Try.results29 rfl rfl (mres _ _ mr0 (setRow_heap _ _ _ _ _ _ HB3.out.1))) rfl (RetParse.err HB3.out.1 HB3.out.2)
    | some k =>
      have HO := Lib.hid fun W (h : v.n < p64) => of_is v.n k W (by unfold p64 at h; omega) hk
      obtain ⟨sb, hsb⟩ : ∃ sb : ByteArray, sb = ⟨(schS k).toArray⟩ := ⟨_, rfl⟩
      have HS : Hid (sb.data.toList = schS k) := by rw [Hid, hsb]
      have hsc := Lib.hid fun W => schema_k k W
      rw [← hsb] at hsc
      clear hsb
      have HW : Hid (∀ W, Below w.heap.size w W → Calls Try.prog 26 #[.string sb, .slice A n cap] W (RetWhole W (wholeP (schS k) l))) := fun W h => by
        have h2 := whole_any sb l A n cap W (by rw [HS.out]; have := sch_len k; omega) (HL.out.ext h) hn hc (by omega)
        rwa [HS.out] at h2
      by_cases hw : (wholeP (schS k) l).2 = 0
      · have HY := Lib.hid (parse_is hv hk hw)
        generalize parseM l = Y at *
        have HX := Lib.hid (And.intro (whole_len hw) hw)
        have HK := Lib.hid hk
        clear hv hk hw
        generalize wholeP (schS k) l = x at *
        obtain ⟨xs, er⟩ := x
        have he0 : er = 0 := HX.out.2
        subst he0
        go_enter Try.func29, Try.ntmps29
        go_upto_region 11 with (first | ((go_at_call 24; refine (HT.out _ (below_1 w _)).mono ?_; rintro e w1 ⟨hb1, A1, n1, c1, rs, rfl, hrs, hvo⟩; have HB := box_in hb1; have HB2 : Hid (w1.heap[w.heap.size]? = some (.cells #[.int .u8 0, .int .i64 0, .int .i64 0, .int .i64 0, .int .i64 0, .bool false, .slice none 0 0] 48 (0, 0)) ∧ Below w.heap.size w w1) := ⟨HB.out.1, HB.out.2.1⟩; have HV := Lib.hid (And.intro hrs hvo); clear hb1 hrs hvo); obtain ⟨rfl, b1, off1, rfl, hb1, h10, hvp⟩ := head_of HV.out) | (go_at_call 64; refine (HO.out _ hvp).mono ?_; rintro e w2 ⟨rfl, hb2⟩; have HB3 := up_al (o := Obj.cells #[.bool k.width, .bool k.seq, .bool k.data, .int .i64 k.least, .bool k.up] 99) HB2.out hb2; have HK3 := Lib.hid (Blk.new w2 99 #[.bool k.width, .bool k.seq, .bool k.data, .int .i64 k.least, .bool k.up]); have HV3 := Lib.hid (And.intro HV.out.1 ((HV.out.2.ext hb2).ext (below_1 w2 (Obj.cells #[.bool k.width, .bool k.seq, .bool k.data, .int .i64 k.least, .bool k.up] 99)))); clear hb2) | (go_at_call 65; refine (hsc.out _).mono ?_; rintro e w4 ⟨rfl, hb4⟩; have HB4 := up_no HB3.out hb4; have HK4 := Lib.hid (HK3.out.ext hb4); have HV4 := Lib.hid (And.intro HV3.out.1 (HV3.out.2.ext hb4)); clear hb4) | (go_at_call 26; refine (HW.out _ HB4.out.2).mono ?_; rintro e w5 ⟨hb5, A2, n2, c2, rs2, rfl, hrs2, hvo2⟩; have HB5 := up_al (o := Obj.cells #[.slice A2 n2 c2] 22) HB4.out hb5; have HK5 := Lib.hid ((HK4.out.ext hb5).ext (below_1 w5 (Obj.cells #[.slice A2 n2 c2] 22))); have HV5 := Lib.hid (And.intro HV4.out.1 ((HV4.out.2.ext hb5).ext (below_1 w5 (Obj.cells #[.slice A2 n2 c2] 22)))); have HR5 := Lib.hid (And.intro hrs2 (And.intro (hvo2.ext (below_1 w5 (Obj.cells #[.slice A2 n2 c2] 22))) (Array.getElem?_eq_some_iff.1 HB4.out.1).1)); have HC5 := Lib.hid (Blk.new w5 22 #[.slice A2 n2 c2]); clear hb5 hrs2 hvo2))
        have hkc := kk_cases HK.out
        have hn2 : n2 = (ksS k).length := by
          have h1 := HR5.out.2.1.own.len
          have h2 := congrArg List.length HR5.out.1
          rw [List.length_map] at h2
          have h3 := HX.out.1
          omega
        have HN2 := Lib.hid hn2
        have hks : 3 ≤ (ksS k).length ∧ (ksS k).length ≤ 6 := by unfold ksS; split <;> (try split) <;> simp
        obtain ⟨_, b2, off2, hA2, hb2, h20, _⟩ := head_of HV5.out
        obtain ⟨rfl, rfl⟩ : b1 = b2 ∧ off1 = off2 := by injection hA2 with h; injection h with h1 h2; exact ⟨h1, h2⟩
        have hpn : ∀ i : Nat, i < n2 → ∀ W, Below (w5.alloc (Obj.cells #[.slice A2 n2 c2] 22)).heap.size (w5.alloc (Obj.cells #[.slice A2 n2 c2] 22)) W → Calls Try.prog 66 #[.int .i64 (i : Int), .pointer (some ⟨w5.heap.size, 0, none⟩)] W fun e w' => e = .returned (.int .i64 (numM xs i)) ∧ W = w' := fun i hi W hW => by
          have h1 := pn_any rs2 A2 n2 c2 i w5.heap.size W ((HC5.out.ext hW).cell 0) ((HR5.out.2.1.own.ext hW).sl Wr.cells_len) (fun r hr => (HR5.out.2.1.ok r hr).wf.1) HR5.out.2.1.own.len (by omega) hi
          rw [HR5.out.1] at h1
          exact h1
        have HP1 : Hid (∀ W, Below (w5.alloc (Obj.cells #[.slice A2 n2 c2] 22)).heap.size (w5.alloc (Obj.cells #[.slice A2 n2 c2] 22)) W → Calls Try.prog 66 #[.int .i64 1, .pointer (some ⟨w5.heap.size, 0, none⟩)] W fun e w' => e = .returned (.int .i64 (numM xs 1)) ∧ W = w') := hpn 1 (by omega)
        have HP2 : Hid (∀ W, Below (w5.alloc (Obj.cells #[.slice A2 n2 c2] 22)).heap.size (w5.alloc (Obj.cells #[.slice A2 n2 c2] 22)) W → Calls Try.prog 66 #[.int .i64 2, .pointer (some ⟨w5.heap.size, 0, none⟩)] W fun e w' => e = .returned (.int .i64 (numM xs 2)) ∧ W = w') := hpn 2 (by omega)
        have HP3 : Hid (4 ≤ n2 → ∀ W, Below (w5.alloc (Obj.cells #[.slice A2 n2 c2] 22)).heap.size (w5.alloc (Obj.cells #[.slice A2 n2 c2] 22)) W → Calls Try.prog 66 #[.int .i64 3, .pointer (some ⟨w5.heap.size, 0, none⟩)] W fun e w' => e = .returned (.int .i64 (numM xs 3)) ∧ W = w') := fun h => hpn 3 (by omega)
        have e8 : IntKind.u8.wrap (v.n : Int) = (v.n : Int) := IntWalk.u8_in _ (by rcases hkc with ⟨h, _⟩ | ⟨h, _⟩ | ⟨h, _⟩ | ⟨h, _⟩ | ⟨h, _⟩ <;> omega)
        have hn3 : 3 ≤ n2 := by omega
        clear hpn hA2 hn2
        generalize w5.alloc (Obj.cells #[.slice A2 n2 c2] 22) = w6 at *
        generalize w5.heap.size = g5 at *
        clear HO HS hsc HW HT HL HB HB2 HB3 HK3 HV HV3 HB4 HK4 HV4 h10 hks hn hc hm
        go_cut [11] (fun s11 wx => s11 = .pointer (some ⟨w6.heap.size, 0, none⟩) ∧ wx = (w6.alloc (.cells #[.int .u8 (v.n : Int), .int .i64 (numM xs 1), .int .i64 (numM xs 2), .int .i64 0, .int .i64 0, .bool false, .slice none 0 0] 48)).drew)
        case first =>
          clear hkc
          go_region_with (first | (go_at_call_of 66 (Value.int .i64 1); refine (HP1.out _ ?_).mono ?_; (with_reducible first | exact (hb_d w6).out | exact (hb_ad w6 _).out); rintro e w' ⟨rfl, rfl⟩) | (go_at_call_of 66 (Value.int .i64 2); refine (HP2.out _ ?_).mono ?_; (with_reducible first | exact (hb_d w6).out | exact (hb_ad w6 _).out); rintro e w' ⟨rfl, rfl⟩))
          all_goals (go_wp2_with fail; go_meet; exact ⟨rfl, rfl⟩)
        case rest =>
          obtain ⟨rfl, h9⟩ := hcut
          subst h9
          have hK7 := (HK5.out.ext (below_1 w6 (Obj.cells #[.int .u8 (v.n : Int), .int .i64 (numM xs 1), .int .i64 (numM xs 2), .int .i64 0, .int .i64 0, .bool false, .slice none 0 0] 48))).drew
          have k0 := HK5.out.cell 0
          have k1 := HK5.out.cell 1
          have k2 := HK5.out.cell 2
          simp only [List.getElem?_toArray, List.getElem?_cons_zero, List.getElem?_cons_succ] at k0 k1 k2
          have hlk := HK5.out.lt
          have hnk : w2.heap.size ≠ w6.heap.size := by omega
          have hg5 := HC5.out.lt
          have hn5 : g5 ≠ w6.heap.size := by omega
          clear hK7
          rcases hkc with ⟨hvn, rfl⟩ | ⟨hvn, rfl⟩ | ⟨hvn, rfl⟩ | ⟨hvn, rfl⟩ | ⟨hvn, rfl⟩
          · have hn4 : 4 ≤ n2 := by rw [HN2.out]; decide
            have HY2 : Hid (Y = if mayB ⟨1, numM xs 1, numM xs 2, (numM xs 3), 0, false, []⟩ then (⟨1, numM xs 1, numM xs 2, (numM xs 3), 0, false, []⟩, 0) else (ms0, 240)) := by rw [Hid, HY.out, hvn]; rfl
            have hmay := Lib.hid fun W (b : Bool) (hb : mayB ⟨1, numM xs 1, numM xs 2, (numM xs 3), 0, false, []⟩ = b) => may_lit 1 (numM xs 1) (numM xs 2) (numM xs 3) 0 b W hb (by decide)
            cases hmm : mayB ⟨1, numM xs 1, numM xs 2, (numM xs 3), 0, false, []⟩ with
            | false =>
              have HM := Lib.hid fun W => hmay.out W false hmm
              have HY3 : Hid (Y = (ms0, 240)) := by rw [Hid, HY2.out, hmm]; rfl
              clear hmm hmay HY HY2
              go_wp2_with (first | (go_at_call 66; refine (HP3.out hn4 _ ?_).mono ?_; (with_reducible exact (hb_ad w6 _).out); rintro e w' ⟨rfl, rfl⟩) | (go_at_call 35; refine (HM.out _).mono ?_; rintro e w8 ⟨rfl, hb8⟩; have HB8 := up_ad HB5.out hb8; clear hb8) | (with_reducible refine wpList_store_row rfl 48 (.tmp 2) (.tmp 78) rfl _ _ rfl rfl 48 _ HB8.out.1 (zM mr0) rfl (one7 _ _ _ _ _ _ _ _ _) ?_))
              rw [HY3.out]
              exact bodyPost_ret (v := .tuple #[mr0.agg, .int .i64 240]) (results_cell_tmp Try.results29 rfl rfl (mres _ _ mr0 (setRow_heap _ _ _ _ _ _ HB8.out.1))) rfl (RetParse.err HB8.out.1 HB8.out.2.1)
            | true =>
              have HM := Lib.hid fun W => hmay.out W true hmm
              have HY3 : Hid (Y = (⟨1, numM xs 1, numM xs 2, (numM xs 3), 0, false, []⟩, 0)) := by rw [Hid, HY2.out, hmm]; rfl
              clear hmm hmay HY HY2
              go_wp2_with (first | (go_at_call 66; refine (HP3.out hn4 _ ?_).mono ?_; (with_reducible exact (hb_ad w6 _).out); rintro e w' ⟨rfl, rfl⟩) | (go_at_call 35; refine (HM.out _).mono ?_; rintro e w8 ⟨rfl, hb8⟩; have HB8 := up_ad HB5.out hb8; clear hb8; have m0 := HB8.out.2.2.cell 0; have m1 := HB8.out.2.2.cell 1; have m2 := HB8.out.2.2.cell 2; have m3 := HB8.out.2.2.cell 3; have m4 := HB8.out.2.2.cell 4; have m5 := HB8.out.2.2.cell 5; have m6 := HB8.out.2.2.cell 6; simp only [List.getElem?_toArray, List.getElem?_cons_zero, List.getElem?_cons_succ] at m0 m1 m2 m3 m4 m5 m6) | (with_reducible refine wpList_store_row rfl 48 (.tmp 2) (.tmp 79) rfl _ _ rfl rfl 48 _ HB8.out.1 (zM ⟨⟨1, numM xs 1, numM xs 2, (numM xs 3), 0, false, []⟩, none, 0, 0⟩) rfl (one7 _ _ _ _ _ _ _ _ _) ?_))
              rw [HY3.out]
              exact bodyPost_ret (v := .tuple #[(⟨⟨1, numM xs 1, numM xs 2, (numM xs 3), 0, false, []⟩, none, 0, 0⟩ : Mr).agg, .int .i64 0]) (results_cell_tmp Try.results29 rfl rfl (mres _ _ ⟨⟨1, numM xs 1, numM xs 2, (numM xs 3), 0, false, []⟩, none, 0, 0⟩ (setRow_heap _ _ _ _ _ _ HB8.out.1))) rfl ⟨below_setRow HB8.out.2.1 (Nat.le_refl _) _, ⟨⟨1, numM xs 1, numM xs 2, (numM xs 3), 0, false, []⟩, none, 0, 0⟩, rfl, rfl, OwnA.nil_ _ _ _ _, fun k hk => by cases hk⟩
          · skip
            have HY2 : Hid (Y = if mayB ⟨2, numM xs 1, numM xs 2, 0, 0, false, []⟩ then (⟨2, numM xs 1, numM xs 2, 0, 0, false, []⟩, 0) else (ms0, 240)) := by rw [Hid, HY.out, hvn]; rfl
            have hmay := Lib.hid fun W (b : Bool) (hb : mayB ⟨2, numM xs 1, numM xs 2, 0, 0, false, []⟩ = b) => may_lit 2 (numM xs 1) (numM xs 2) 0 0 b W hb (by decide)
            cases hmm : mayB ⟨2, numM xs 1, numM xs 2, 0, 0, false, []⟩ with
            | false =>
              have HM := Lib.hid fun W => hmay.out W false hmm
              have HY3 : Hid (Y = (ms0, 240)) := by rw [Hid, HY2.out, hmm]; rfl
              clear hmm hmay HY HY2
              go_wp2_with (first | fail | (go_at_call 35; refine (HM.out _).mono ?_; rintro e w8 ⟨rfl, hb8⟩; have HB8 := up_ad HB5.out hb8; clear hb8) | (with_reducible refine wpList_store_row rfl 48 (.tmp 2) (.tmp 78) rfl _ _ rfl rfl 48 _ HB8.out.1 (zM mr0) rfl (one7 _ _ _ _ _ _ _ _ _) ?_))
              rw [HY3.out]
              exact bodyPost_ret (v := .tuple #[mr0.agg, .int .i64 240]) (results_cell_tmp Try.results29 rfl rfl (mres _ _ mr0 (setRow_heap _ _ _ _ _ _ HB8.out.1))) rfl (RetParse.err HB8.out.1 HB8.out.2.1)
            | true =>
              have HM := Lib.hid fun W => hmay.out W true hmm
              have HY3 : Hid (Y = (⟨2, numM xs 1, numM xs 2, 0, 0, false, []⟩, 0)) := by rw [Hid, HY2.out, hmm]; rfl
              clear hmm hmay HY HY2
              go_wp2_with (first | fail | (go_at_call 35; refine (HM.out _).mono ?_; rintro e w8 ⟨rfl, hb8⟩; have HB8 := up_ad HB5.out hb8; clear hb8; have m0 := HB8.out.2.2.cell 0; have m1 := HB8.out.2.2.cell 1; have m2 := HB8.out.2.2.cell 2; have m3 := HB8.out.2.2.cell 3; have m4 := HB8.out.2.2.cell 4; have m5 := HB8.out.2.2.cell 5; have m6 := HB8.out.2.2.cell 6; simp only [List.getElem?_toArray, List.getElem?_cons_zero, List.getElem?_cons_succ] at m0 m1 m2 m3 m4 m5 m6) | (with_reducible refine wpList_store_row rfl 48 (.tmp 2) (.tmp 79) rfl _ _ rfl rfl 48 _ HB8.out.1 (zM ⟨⟨2, numM xs 1, numM xs 2, 0, 0, false, []⟩, none, 0, 0⟩) rfl (one7 _ _ _ _ _ _ _ _ _) ?_))
              rw [HY3.out]
              exact bodyPost_ret (v := .tuple #[(⟨⟨2, numM xs 1, numM xs 2, 0, 0, false, []⟩, none, 0, 0⟩ : Mr).agg, .int .i64 0]) (results_cell_tmp Try.results29 rfl rfl (mres _ _ ⟨⟨2, numM xs 1, numM xs 2, 0, 0, false, []⟩, none, 0, 0⟩ (setRow_heap _ _ _ _ _ _ HB8.out.1))) rfl ⟨below_setRow HB8.out.2.1 (Nat.le_refl _) _, ⟨⟨2, numM xs 1, numM xs 2, 0, 0, false, []⟩, none, 0, 0⟩, rfl, rfl, OwnA.nil_ _ _ _ _, fun k hk => by cases hk⟩
          · have hn4 : 4 ≤ n2 := by rw [HN2.out]; decide
            have HY2 : Hid (Y = if mayB ⟨3, numM xs 1, numM xs 2, 0, (numM xs 3), false, []⟩ then (⟨3, numM xs 1, numM xs 2, 0, (numM xs 3), false, []⟩, 0) else (ms0, 240)) := by rw [Hid, HY.out, hvn]; rfl
            have hmay := Lib.hid fun W (b : Bool) (hb : mayB ⟨3, numM xs 1, numM xs 2, 0, (numM xs 3), false, []⟩ = b) => may_lit 3 (numM xs 1) (numM xs 2) 0 (numM xs 3) b W hb (by decide)
            cases hmm : mayB ⟨3, numM xs 1, numM xs 2, 0, (numM xs 3), false, []⟩ with
            | false =>
              have HM := Lib.hid fun W => hmay.out W false hmm
              have HY3 : Hid (Y = (ms0, 240)) := by rw [Hid, HY2.out, hmm]; rfl
              clear hmm hmay HY HY2
              go_wp2_with (first | (go_at_call 66; refine (HP3.out hn4 _ ?_).mono ?_; (with_reducible exact (hb_ad w6 _).out); rintro e w' ⟨rfl, rfl⟩) | (go_at_call 35; refine (HM.out _).mono ?_; rintro e w8 ⟨rfl, hb8⟩; have HB8 := up_ad HB5.out hb8; clear hb8) | (with_reducible refine wpList_store_row rfl 48 (.tmp 2) (.tmp 78) rfl _ _ rfl rfl 48 _ HB8.out.1 (zM mr0) rfl (one7 _ _ _ _ _ _ _ _ _) ?_))
              rw [HY3.out]
              exact bodyPost_ret (v := .tuple #[mr0.agg, .int .i64 240]) (results_cell_tmp Try.results29 rfl rfl (mres _ _ mr0 (setRow_heap _ _ _ _ _ _ HB8.out.1))) rfl (RetParse.err HB8.out.1 HB8.out.2.1)
            | true =>
              have HM := Lib.hid fun W => hmay.out W true hmm
              have HY3 : Hid (Y = (⟨3, numM xs 1, numM xs 2, 0, (numM xs 3), false, []⟩, 0)) := by rw [Hid, HY2.out, hmm]; rfl
              clear hmm hmay HY HY2
              go_wp2_with (first | (go_at_call 66; refine (HP3.out hn4 _ ?_).mono ?_; (with_reducible exact (hb_ad w6 _).out); rintro e w' ⟨rfl, rfl⟩) | (go_at_call 35; refine (HM.out _).mono ?_; rintro e w8 ⟨rfl, hb8⟩; have HB8 := up_ad HB5.out hb8; clear hb8; have m0 := HB8.out.2.2.cell 0; have m1 := HB8.out.2.2.cell 1; have m2 := HB8.out.2.2.cell 2; have m3 := HB8.out.2.2.cell 3; have m4 := HB8.out.2.2.cell 4; have m5 := HB8.out.2.2.cell 5; have m6 := HB8.out.2.2.cell 6; simp only [List.getElem?_toArray, List.getElem?_cons_zero, List.getElem?_cons_succ] at m0 m1 m2 m3 m4 m5 m6) | (with_reducible refine wpList_store_row rfl 48 (.tmp 2) (.tmp 79) rfl _ _ rfl rfl 48 _ HB8.out.1 (zM ⟨⟨3, numM xs 1, numM xs 2, 0, (numM xs 3), false, []⟩, none, 0, 0⟩) rfl (one7 _ _ _ _ _ _ _ _ _) ?_))
              rw [HY3.out]
              exact bodyPost_ret (v := .tuple #[(⟨⟨3, numM xs 1, numM xs 2, 0, (numM xs 3), false, []⟩, none, 0, 0⟩ : Mr).agg, .int .i64 0]) (results_cell_tmp Try.results29 rfl rfl (mres _ _ ⟨⟨3, numM xs 1, numM xs 2, 0, (numM xs 3), false, []⟩, none, 0, 0⟩ (setRow_heap _ _ _ _ _ _ HB8.out.1))) rfl ⟨below_setRow HB8.out.2.1 (Nat.le_refl _) _, ⟨⟨3, numM xs 1, numM xs 2, 0, (numM xs 3), false, []⟩, none, 0, 0⟩, rfl, rfl, OwnA.nil_ _ _ _ _, fun k hk => by cases hk⟩
          · have hn4 : 4 ≤ n2 := by rw [HN2.out]; decide
            have hn6 : n2 = 6 := by rw [HN2.out]; rfl
            obtain ⟨r4, h4, hx4⟩ := nth_of (rs := rs2) (i := 4) HR5.out.1 (by have := HX.out.1; rw [this]; decide)
            obtain ⟨r5, h5, hx5⟩ := nth_of (rs := rs2) (i := 5) HR5.out.1 (by have := HX.out.1; rw [this]; decide)
            obtain ⟨vb, vo, hA4, hvb, y0, y1, y2, y3, y4⟩ := Wr.at_ (HR5.out.2.1.own.sl Wr.cells_len) h4
            obtain ⟨vb', vo', hA5, _, z0, z1, z2, z3, z4⟩ := Wr.at_ (HR5.out.2.1.own.sl Wr.cells_len) h5
            subst hA4
            obtain ⟨rfl, rfl⟩ : vb = vb' ∧ vo = vo' := by injection hA5 with h; injection h with h1 h2; exact ⟨h1, h2⟩
            have hok5 := Lib.hid (And.intro (HR5.out.2.1.ok r5 (List.mem_of_getElem? h5)) (HR5.out.2.1.from' r5 (List.mem_of_getElem? h5)))
            clear hA5 h4 h5
            subst hn6
            have hvn6 : vb ≠ w6.heap.size := by omega
            have s0 : w6.cell? ⟨g5, 0, none⟩ = some (.slice (some ⟨vb, vo, none⟩) 6 c2) := HC5.out.cell 0
            go_upto_region 17 with (go_at_call 66; refine (HP3.out hn4 _ ?_).mono ?_; (with_reducible exact (hb_ad w6 _).out); rintro e w' ⟨rfl, rfl⟩)
            go_region
            have HY2 : Hid (Y = if mayB ⟨4, numM xs 1, numM xs 2, 0, numM xs 3, r4.v.f, r5.v.b⟩ then (⟨4, numM xs 1, numM xs 2, 0, numM xs 3, r4.v.f, r5.v.b⟩, 0) else (ms0, 240)) := by rw [Hid, HY.out, hvn, ← hx4, ← hx5]; rfl
            have hmay := Lib.hid fun W (b : Bool) (hb : mayB ⟨4, numM xs 1, numM xs 2, 0, numM xs 3, r4.v.f, r5.v.b⟩ = b) => may_dat (numM xs 1) (numM xs 2) (numM xs 3) r4.v.f r5 b W hok5.out.1.b.len hb
            cases hmm : mayB ⟨4, numM xs 1, numM xs 2, 0, numM xs 3, r4.v.f, r5.v.b⟩ with
            | false =>
              have HM := Lib.hid fun W => hmay.out W false hmm
              have HY3 : Hid (Y = (ms0, 240)) := by rw [Hid, HY2.out, hmm]; rfl
              clear hmm hmay HY HY2
              go_wp2_with (first | (go_at_call 35; refine (HM.out _).mono ?_; rintro e w8 ⟨rfl, hb8⟩; have HB8 := up_add HB5.out hb8; clear hb8) | (with_reducible refine wpList_store_row rfl 48 (.tmp 2) (.tmp 78) rfl _ _ rfl rfl 48 _ HB8.out.1 (zM mr0) rfl (one7 _ _ _ _ _ _ _ _ _) ?_))
              rw [HY3.out]
              exact bodyPost_ret (v := .tuple #[mr0.agg, .int .i64 240]) (results_cell_tmp Try.results29 rfl rfl (mres _ _ mr0 (setRow_heap _ _ _ _ _ _ HB8.out.1))) rfl (RetParse.err HB8.out.1 HB8.out.2.1)
            | true =>
              have HM := Lib.hid fun W => hmay.out W true hmm
              have HY3 : Hid (Y = (⟨4, numM xs 1, numM xs 2, 0, numM xs 3, r4.v.f, r5.v.b⟩, 0)) := by rw [Hid, HY2.out, hmm]; rfl
              clear hmm hmay HY HY2
              go_wp2_with (first | (go_at_call 35; refine (HM.out _).mono ?_; rintro e w8 ⟨rfl, hb8⟩; have HB8 := up_add HB5.out hb8; clear hb8; have m0 := HB8.out.2.2.1.cell 0; have m1 := HB8.out.2.2.1.cell 1; have m2 := HB8.out.2.2.1.cell 2; have m3 := HB8.out.2.2.1.cell 3; have m4 := HB8.out.2.2.1.cell 4; have m5 := HB8.out.2.2.1.cell 5; have m6 := HB8.out.2.2.1.cell 6; simp only [List.getElem?_toArray, List.getElem?_cons_zero, List.getElem?_cons_succ] at m0 m1 m2 m3 m4 m5 m6) | (with_reducible refine wpList_store_row rfl 48 (.tmp 2) (.tmp 79) rfl _ _ rfl rfl 48 _ HB8.out.1 (zM ⟨⟨4, numM xs 1, numM xs 2, 0, numM xs 3, r4.v.f, r5.v.b⟩, r5.bA, r5.bn, r5.bc⟩) rfl (one7 _ _ _ _ _ _ _ _ _) ?_))
              rw [HY3.out]
              have hfr : ∀ k, (Value.slice r5.bA r5.bn r5.bc).ownBlock = some k → w.heap.size < k := fun k hk => by
                have h1 := hok5.out.2.1 k (by revert hk; cases r5.bA <;> simp [Value.ownBlock, blockOf])
                have h2 := HR5.out.2.2
                omega
              exact bodyPost_ret (v := .tuple #[(⟨⟨4, numM xs 1, numM xs 2, 0, numM xs 3, r4.v.f, r5.v.b⟩, r5.bA, r5.bn, r5.bc⟩ : Mr).agg, .int .i64 0]) (results_cell_tmp Try.results29 rfl rfl (mres _ _ ⟨⟨4, numM xs 1, numM xs 2, 0, numM xs 3, r4.v.f, r5.v.b⟩, r5.bA, r5.bn, r5.bc⟩ (setRow_heap _ _ _ _ _ _ HB8.out.1))) rfl
                ⟨below_setRow HB8.out.2.1 (Nat.le_refl _) _, ⟨⟨4, numM xs 1, numM xs 2, 0, numM xs 3, r4.v.f, r5.v.b⟩, r5.bA, r5.bn, r5.bc⟩, rfl, rfl, (hok5.out.1.b.ext HB8.out.2.2.2).chg (chg_setRow _ _ _) (fun k hk => by have := hfr k hk; omega), fun k hk => by have := hfr k hk; omega⟩
          · skip
            have HY2 : Hid (Y = if mayB ⟨5, numM xs 1, numM xs 2, 0, 0, false, []⟩ then (⟨5, numM xs 1, numM xs 2, 0, 0, false, []⟩, 0) else (ms0, 240)) := by rw [Hid, HY.out, hvn]; rfl
            have hmay := Lib.hid fun W (b : Bool) (hb : mayB ⟨5, numM xs 1, numM xs 2, 0, 0, false, []⟩ = b) => may_lit 5 (numM xs 1) (numM xs 2) 0 0 b W hb (by decide)
            cases hmm : mayB ⟨5, numM xs 1, numM xs 2, 0, 0, false, []⟩ with
            | false =>
              have HM := Lib.hid fun W => hmay.out W false hmm
              have HY3 : Hid (Y = (ms0, 240)) := by rw [Hid, HY2.out, hmm]; rfl
              clear hmm hmay HY HY2
              go_wp2_with (first | fail | (go_at_call 35; refine (HM.out _).mono ?_; rintro e w8 ⟨rfl, hb8⟩; have HB8 := up_ad HB5.out hb8; clear hb8) | (with_reducible refine wpList_store_row rfl 48 (.tmp 2) (.tmp 78) rfl _ _ rfl rfl 48 _ HB8.out.1 (zM mr0) rfl (one7 _ _ _ _ _ _ _ _ _) ?_))
              rw [HY3.out]
              exact bodyPost_ret (v := .tuple #[mr0.agg, .int .i64 240]) (results_cell_tmp Try.results29 rfl rfl (mres _ _ mr0 (setRow_heap _ _ _ _ _ _ HB8.out.1))) rfl (RetParse.err HB8.out.1 HB8.out.2.1)
            | true =>
              have HM := Lib.hid fun W => hmay.out W true hmm
              have HY3 : Hid (Y = (⟨5, numM xs 1, numM xs 2, 0, 0, false, []⟩, 0)) := by rw [Hid, HY2.out, hmm]; rfl
              clear hmm hmay HY HY2
              go_wp2_with (first | fail | (go_at_call 35; refine (HM.out _).mono ?_; rintro e w8 ⟨rfl, hb8⟩; have HB8 := up_ad HB5.out hb8; clear hb8; have m0 := HB8.out.2.2.cell 0; have m1 := HB8.out.2.2.cell 1; have m2 := HB8.out.2.2.cell 2; have m3 := HB8.out.2.2.cell 3; have m4 := HB8.out.2.2.cell 4; have m5 := HB8.out.2.2.cell 5; have m6 := HB8.out.2.2.cell 6; simp only [List.getElem?_toArray, List.getElem?_cons_zero, List.getElem?_cons_succ] at m0 m1 m2 m3 m4 m5 m6) | (with_reducible refine wpList_store_row rfl 48 (.tmp 2) (.tmp 79) rfl _ _ rfl rfl 48 _ HB8.out.1 (zM ⟨⟨5, numM xs 1, numM xs 2, 0, 0, false, []⟩, none, 0, 0⟩) rfl (one7 _ _ _ _ _ _ _ _ _) ?_))
              rw [HY3.out]
              exact bodyPost_ret (v := .tuple #[(⟨⟨5, numM xs 1, numM xs 2, 0, 0, false, []⟩, none, 0, 0⟩ : Mr).agg, .int .i64 0]) (results_cell_tmp Try.results29 rfl rfl (mres _ _ ⟨⟨5, numM xs 1, numM xs 2, 0, 0, false, []⟩, none, 0, 0⟩ (setRow_heap _ _ _ _ _ _ HB8.out.1))) rfl ⟨below_setRow HB8.out.2.1 (Nat.le_refl _) _, ⟨⟨5, numM xs 1, numM xs 2, 0, 0, false, []⟩, none, 0, 0⟩, rfl, rfl, OwnA.nil_ _ _ _ _, fun k hk => by cases hk⟩
      · rw [parse_no3 hv hk hw]
        have he2 : ((wholeP (schS k) l).2 != 0) = true := by simpa using hw
        clear hv hk hw
        generalize wholeP (schS k) l = x at *
        obtain ⟨xs, er⟩ := x
        simp only at he2
        go_enter Try.func29, Try.ntmps29
        go_wp2_with (first | ((go_at_call 24; refine (HT.out _ (below_1 w _)).mono ?_; rintro e w1 ⟨hb1, A1, n1, c1, rs, rfl, hrs, hvo⟩; have HB := box_in hb1; have HB2 : Hid (w1.heap[w.heap.size]? = some (.cells #[.int .u8 0, .int .i64 0, .int .i64 0, .int .i64 0, .int .i64 0, .bool false, .slice none 0 0] 48 (0, 0)) ∧ Below w.heap.size w w1) := ⟨HB.out.1, HB.out.2.1⟩; have HV := Lib.hid (And.intro hrs hvo); clear hb1 hrs hvo); obtain ⟨rfl, b1, off1, rfl, hb1, h10, hvp⟩ := head_of HV.out) | (go_at_call 64; refine (HO.out _ hvp).mono ?_; rintro e w2 ⟨rfl, hb2⟩; have HB3 := up_al (o := Obj.cells #[.bool k.width, .bool k.seq, .bool k.data, .int .i64 k.least, .bool k.up] 99) HB2.out hb2; have HK3 := Lib.hid (Blk.new w2 99 #[.bool k.width, .bool k.seq, .bool k.data, .int .i64 k.least, .bool k.up]); have HV3 := Lib.hid (And.intro HV.out.1 ((HV.out.2.ext hb2).ext (below_1 w2 (Obj.cells #[.bool k.width, .bool k.seq, .bool k.data, .int .i64 k.least, .bool k.up] 99)))); clear hb2) | (go_at_call 65; refine (hsc.out _).mono ?_; rintro e w4 ⟨rfl, hb4⟩; have HB4 := up_no HB3.out hb4; have HK4 := Lib.hid (HK3.out.ext hb4); have HV4 := Lib.hid (And.intro HV3.out.1 (HV3.out.2.ext hb4)); clear hb4) | (go_at_call 26; refine (HW.out _ HB4.out.2).mono ?_; rintro e w5 ⟨hb5, A2, n2, c2, rs2, rfl, hrs2, hvo2⟩; have HB5 := up_al (o := Obj.cells #[.slice A2 n2 c2] 22) HB4.out hb5; have HK5 := Lib.hid ((HK4.out.ext hb5).ext (below_1 w5 (Obj.cells #[.slice A2 n2 c2] 22))); have HV5 := Lib.hid (And.intro HV4.out.1 ((HV4.out.2.ext hb5).ext (below_1 w5 (Obj.cells #[.slice A2 n2 c2] 22)))); have HR5 := Lib.hid (And.intro hrs2 (And.intro (hvo2.ext (below_1 w5 (Obj.cells #[.slice A2 n2 c2] 22))) (Array.getElem?_eq_some_iff.1 HB4.out.1).1)); have HC5 := Lib.hid (Blk.new w5 22 #[.slice A2 n2 c2]); clear hb5 hrs2 hvo2) | (with_reducible refine wpList_store_row rfl 48 (.tmp 2) (.tmp 41) rfl _ _ rfl rfl 48 _ HB5.out.1 (zM mr0) rfl (one7 _ _ _ _ _ _ _ _ _) ?_))
        exact bodyPost_ret (v := .tuple #[mr0.agg, .int .i64 240]) (results_cell_tmp Try.results29 rfl rfl (mres _ _ mr0 (setRow_heap _ _ _ _ _ _ HB5.out.1))) rfl (RetParse.err HB5.out.1 HB5.out.2)
  · rw [parse_no1 he]
    have he2 : ((takeP [110] l).2.2 != 0) = true := by simpa using he
    have HT := Lib.hid ht
    clear ht hl hs1 he
    generalize takeP [110] l = x at *
    obtain ⟨vs, u, er⟩ := x
    simp only at he2
    go_enter Try.func29, Try.ntmps29
    go_wp2_with (first | (go_at_call 24; refine (HT.out _ (below_1 w _)).mono ?_; rintro e w1 ⟨hb1, A1, n1, c1, rs, rfl, hrs, hvo⟩; have HB := box_in hb1; have HB2 : Hid (w1.heap[w.heap.size]? = some (.cells #[.int .u8 0, .int .i64 0, .int .i64 0, .int .i64 0, .int .i64 0, .bool false, .slice none 0 0] 48 (0, 0)) ∧ Below w.heap.size w w1) := ⟨HB.out.1, HB.out.2.1⟩; have HV := Lib.hid (And.intro hrs hvo); clear hb1 hrs hvo) | (with_reducible refine wpList_store_row rfl 48 (.tmp 2) (.tmp 20) rfl _ _ rfl rfl 48 _ HB2.out.1 (zM mr0) rfl (one7 _ _ _ _ _ _ _ _ _) ?_))
    exact bodyPost_ret (v := .tuple #[mr0.agg, .int .i64 240]) (results_cell_tmp Try.results29 rfl rfl (mres _ _ mr0 (setRow_heap _ _ _ _ _ _ HB2.out.1))) rfl (RetParse.err HB2.out.1 HB2.out.2)
end Go.Proofs.Ytoneechcclndaaa.Msg
