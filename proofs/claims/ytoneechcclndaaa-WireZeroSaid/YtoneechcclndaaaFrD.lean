/- frag: the program's number; what both Parse's share. -/
import Derived.Test.YtoneechcclndaaaFrA
import Derived.Test.YtoneechcclndaaaFrC
import Derived.Test.YtoneechcclndaaaFrS
import Derived.Test.YtoneechcclndaaaFrU
import Derived.Test.YtoneechcclndaaaUni
import Derived.Laws.IdiomStrings
import Derived.Outline
import Derived.BigQuiet
import Derived.Deep.QuietTactic
import Derived.Deep.RegionWith
import Derived.Deep.RegionHeld3
import Derived.Deep.DrawnRows
import Derived.Deep.LoopGhost
import Derived.Deep.DeepCutAuto
import Derived.Laws.EntriesVeiled
namespace Go.Proofs.Ytoneechcclndaaa.FForm
open Go.RowKit Go.ChangeShapes Go.WideShapes Go.ChangeAt
set_option linter.unusedVariables false
set_option linter.unusedSimpArgs false
attribute [local go_sem ↓] Go.wp_at_zero Go.wp_at_succ
open Go.Shelf Go.Proofs.Ytoneechcclndaaa.Word Go.Proofs.Ytoneechcclndaaa.Wire Go.Proofs.Ytoneechcclndaaa.Msg FragA FragB MayA Tree FCheck lawTorn FTr

/-- what Parse leaves -/
def RetFrs (w : World) (x : List Fr × Int) (e : Ending) (w' : World) : Prop :=
  Below w.heap.size w w' ∧ ∃ A n c, e = .returned (.tuple #[.slice A n c, .int .i64 x.2]) ∧ OwnA w' 65 8 Fr.cells (.slice A n c) x.1 ∧ ∀ k, (Value.slice A n c).ownBlock = some k → w.heap.size ≤ k
theorem RetFrs.err {w w' : World} (hb : Below w.heap.size w w') (er : Int) {e : Ending} (he : e = .returned (.tuple #[.slice none 0 0, .int .i64 er])) : RetFrs w ([], er) e w' :=
  ⟨hb, none, 0, 0, he, OwnA.nil_ _ _ _ _, fun k hk => by cases hk⟩
theorem fnum_any (r : Wr) (w : World) : Calls Try.prog 77 #[r.agg] w fun e w' => e = .returned (.int .i64 (numV r.v)) ∧ Below w.heap.size w w' := by
  unfold Wr.agg
  have hN : Hid (numV r.v = ((min r.v.n 1099511627777 : Nat) : Int)) := rfl
  generalize numV r.v = y at *
  by_cases h : r.v.n ≤ 1099511627777
  · have hy : y = (r.v.n : Int) := by rw [hN.out, Nat.min_eq_left h]
    have d1 : ((1099511627777 : Int) < (r.v.n : Int)) = False := by simp; omega
    have d2 : ((r.v.n : Int) ≤ (1099511627777 : Int)) = True := by simp; omega
    have d3 : min (r.v.n : Int) 1099511627777 = (r.v.n : Int) := by omega
    have d4 : IntKind.i64.wrap (r.v.n : Int) = (r.v.n : Int) := IntWalk.i64_in _ (by omega)
    subst hy
    clear hN
    go_enter Try.func77, Try.ntmps77
    go_wp2
    go_ret
    exact ⟨rfl, (by repeat (first | exact Below.refl _ _ | assumption | refine Below.drew ?_ | refine bdrewN ?_ _ | refine Below.alloc ?_ (by simp; try omega) _ | refine Below.setCell ?_ (by simp; try omega) _))⟩
  · have hy : y = 1099511627777 := by rw [hN.out, Nat.min_eq_right (by omega)]; rfl
    have d3 : min (r.v.n : Int) 1099511627777 = 1099511627777 := by omega
    subst hy
    clear hN
    go_enter Try.func77, Try.ntmps77
    go_wp2
    go_ret
    exact ⟨rfl, (by repeat (first | exact Below.refl _ _ | assumption | refine Below.drew ?_ | refine bdrewN ?_ _ | refine Below.alloc ?_ (by simp; try omega) _ | refine Below.setCell ?_ (by simp; try omega) _))⟩
/-- string of bytes -/
theorem conv_str (l : List UInt8) (A : Option Addr) (n c B : Nat) (W : World) (hl : BySl W B A l) (hn : n = l.length) : (convert 25 9 (.slice A n c)).run Try.prog W = .ok (.string ⟨l.toArray⟩) W := by
  subst hn
  cases A with
  | none =>
    have : l = [] := by
      rcases l with _ | ⟨x, l⟩
      · rfl
      · obtain ⟨g, off, h, _⟩ := hl (by simp); cases h
    subst this
    rw [run_convert_bytes_string W _ _ 5 none _ c Try.underlying25 Try.underlying5 Try.underlying9]
    simp [Conv.bytesToString]; rfl
  | some ad =>
    refine run_convert_bytes_back W _ _ 5 ad c l Try.underlying25 Try.underlying5 Try.underlying9 fun j hj => ?_
    obtain ⟨g, off, hA, _, hc⟩ := BySl.at_ hl (List.getElem?_eq_getElem hj)
    injection hA with hA
    subst hA
    rw [← hc]
    congr 1
    unfold Addr.add
    split
    · rename_i h; rw [h]; rfl
    · rfl
theorem head_take (b : List UInt8) : takeP [110] b = match getW b with | none => ([], 0, 40) | some (n, k) => ([{ wv0 with n := n }], k, 0) := by
  have e : takeP [110] b = outT (takeS [.nat] b) := rfl
  rw [e]
  unfold takeS takeK
  cases getW b with
  | none => rfl
  | some x => obtain ⟨n, k⟩ := x; rfl
theorem row_takeP (b : List UInt8) : takeP frS b = outT (takeS frK b) := rfl
theorem rows_none {b : List UInt8} {j : Nat} (h : rowsV b j = none) : ∀ m, j ≤ m → rowsV b m = none := by
  intro m hm
  induction m with
  | zero => have : j = 0 := by omega
            subst this; exact h
  | succ m ih =>
    by_cases e : j = m + 1
    · rw [← e]; exact h
    · unfold rowsV; rw [ih (by omega)]
theorem rows_next {b : List UInt8} {j t : Nat} {vs : List (List WV)} (h : rowsV b j = some (vs, t)) : rowsV b (j + 1) = match takeS frK (b.drop t) with | none => none | some (v, u) => some (vs ++ [v], t + u) := by
  rw [rowsV, h]; rfl
theorem rows_wf (b : List UInt8) : ∀ (j : Nat) (vs : List (List WV)) (t : Nat), rowsV b j = some (vs, t) → ∀ v ∈ vs, ∀ x ∈ v, x.Wf
  | 0, vs, t, h => by
    simp only [rowsV, Option.some.injEq, Prod.mk.injEq] at h
    obtain ⟨rfl, rfl⟩ := h
    simp
  | j + 1, vs, t, h => by
    unfold rowsV at h
    cases hr : rowsV b j with
    | none => rw [hr] at h; cases h
    | some x =>
      obtain ⟨us, s⟩ := x
      rw [hr] at h
      simp only at h
      cases ht : takeS frK (b.drop s) with
      | none => rw [ht] at h; cases h
      | some y =>
        obtain ⟨v, u⟩ := y
        rw [ht] at h
        simp only [Option.some.injEq, Prod.mk.injEq] at h
        obtain ⟨rfl, rfl⟩ := h
        have hp := put_takeS frK _ _ _ ht
        intro x hx
        rcases List.mem_append.1 hx with hx | hx
        · exact rows_wf b j us s hr x hx
        · simp only [List.mem_singleton] at hx; rw [hx]; exact hp.2.2.1
theorem lit_i64' {z : Int} (h1 : -9223372036854775808 ≤ z) (h2 : z ≤ 9223372036854775807) : (Lit.int .i64 z).wf = true := by
  simpa [Lit.wf, IntKind.min, IntKind.max, IntKind.signed, IntKind.bits] using And.intro h1 h2
theorem wf_getD {v : List WV} (h : ∀ x ∈ v, x.Wf) (i : Nat) : (v.getD i wv0).Wf := by
  by_cases hi : i < v.length
  · rw [List.getD_eq_getElem?_getD, List.getElem?_eq_getElem hi]; exact h _ (List.getElem_mem hi)
  · rw [List.getD_eq_getElem?_getD, List.getElem?_eq_none (by omega)]; exact wv0_wf
theorem num_wf (num : WV → Int) (hn : ∀ v, -1 ≤ num v ∧ num v ≤ 1099511627777) {v : List WV} (h : ∀ x ∈ v, x.Wf) : (ofG num v).Wf := by
  have a0 := hn (v.getD 0 wv0)
  have a1 := hn (v.getD 1 wv0)
  have a2 := hn (v.getD 2 wv0)
  have a3 := wf_getD h 3
  have a4 := wf_getD h 4
  have a5 := wf_getD h 5
  have a6 := wf_getD h 6
  have a7 := wf_getD h 7
  refine ⟨lit_i64' (by simp only [ofG]; omega) (by simp only [ofG]; omega), lit_i64' (by simp only [ofG]; omega) (by simp only [ofG]; omega), lit_i64' (by simp only [ofG]; omega) (by simp only [ofG]; omega),
    lit_i64' a3.2.1 a3.2.2.1, lit_i64' a4.2.1 a4.2.2.1, lit_i64' a5.2.1 a5.2.2.1, lit_i64' a6.2.1 a6.2.2.1, ?_⟩
  have := a7.2.2.2.2.1
  show (v.getD 7 wv0).b.toArray.size ≤ _
  simp only [List.size_toArray]
  omega
theorem numV_bd (v : WV) : -1 ≤ numV v ∧ numV v ≤ 1099511627777 := by unfold numV; omega
theorem natR_bd (v : WV) : -1 ≤ natR v ∧ natR v ≤ 1099511627777 := by unfold natR; split <;> omega
theorem parse_no1 {num : WV → Int} {b : List UInt8} (h : getW b = none) : parseG num b = ([], 200) := by unfold parseG; rw [h]
theorem parse_no2 {num : WV → Int} {b : List UInt8} {n k : Nat} (h : getW b = some (n, k)) (h2 : ¬ (b.length ≤ 262144 ∧ n ≤ 2048)) : parseG num b = ([], 200) := by unfold parseG; rw [h]; simp only; rw [if_neg h2]
theorem parse_no3 {num : WV → Int} {b : List UInt8} {n k j : Nat} (h : getW b = some (n, k)) (hr : rowsV (b.drop k) j = none) (hj : j ≤ n) : parseG num b = ([], 200) := by
  unfold parseG; rw [h]; simp only
  split
  · rw [rows_none hr n hj]
  · rfl
theorem parse_no4 {num : WV → Int} {b : List UInt8} {n k t : Nat} {vs : List (List WV)} (h : getW b = some (n, k)) (hr : rowsV (b.drop k) n = some (vs, t)) (hj : ¬ (k + t = b.length ∧ chk (vs.map (ofG num)) = 0)) : parseG num b = ([], 200) := by
  unfold parseG; rw [h]; simp only
  split
  · rw [hr]; simp only; rw [if_neg hj]
  · rfl
theorem parse_yes {num : WV → Int} {b : List UInt8} {n k t : Nat} {vs : List (List WV)} (h : getW b = some (n, k)) (h2 : b.length ≤ 262144 ∧ n ≤ 2048) (hr : rowsV (b.drop k) n = some (vs, t)) (hj : k + t = b.length ∧ chk (vs.map (ofG num)) = 0) : parseG num b = (vs.map (ofG num), 0) := by
  unfold parseG; rw [h]; simp only
  rw [if_pos h2, hr]; simp only; rw [if_pos hj]
/-- eight values, as they were taken -/
theorem eight_of {rs : List Wr} {v : List WV} {b : List UInt8} {u : Nat} (ht : takeS frK b = some (v, u)) (h : rs.map Wr.v = v) : ∃ r0 r1 r2 r3 r4 r5 r6 r7, rs = [r0, r1, r2, r3, r4, r5, r6, r7] := by
  have hl : rs.length = 8 := by
    have h1 := fits_len _ _ (put_takeS frK _ _ _ ht).2.1
    rw [← h, List.length_map] at h1
    exact h1.symm
  match rs, hl with
  | [r0, r1, r2, r3, r4, r5, r6, r7], _ => exact ⟨r0, r1, r2, r3, r4, r5, r6, r7, rfl⟩
theorem of_eight (num : WV → Int) (r0 r1 r2 r3 r4 r5 r6 r7 : Wr) : ofG num ([r0, r1, r2, r3, r4, r5, r6, r7].map Wr.v) = ⟨num r0.v, num r1.v, num r2.v, r3.v.i, r4.v.i, r5.v.i, r6.v.i, ⟨r7.v.b.toArray⟩⟩ := rfl
theorem head1 {w1 : World} {B : Nat} {A1 : Option Addr} {n1 c1 : Nat} {rs : List Wr} {v : WV} (h : rs.map Wr.v = [v]) (h2 : VOwn B w1 A1 n1 c1 rs) : n1 = 1 ∧ ∃ b off, A1 = some ⟨b, off, none⟩ ∧ b < w1.heap.size ∧ w1.cell? ⟨b, off, none⟩ = some (.int .u64 (v.n : Int)) ∧ v.n < p64 := by
  have hl := congrArg List.length h
  simp only [List.length_map, List.length_cons, List.length_nil] at hl
  match rs, hl with
  | [r], _ =>
    simp only [List.map_cons, List.map_nil, List.cons.injEq, and_true] at h
    subst h
    obtain ⟨b, off, hA, hb, c0, _⟩ := Wr.at_ (h2.own.sl Wr.cells_len) (j := 0) (r := r) rfl
    exact ⟨h2.own.len, b, off, hA, hb, by simpa using c0, (h2.ok r (by simp)).wf.1⟩
theorem bcell {W w1 : World} (hb : Below W.heap.size W w1) : (∀ b o, b < W.heap.size → w1.cell? ⟨b, o, none⟩ = W.cell? ⟨b, o, none⟩) ∧ (∀ b o, b < W.heap.size → w1.frozen? ⟨b, o, none⟩ = W.frozen? ⟨b, o, none⟩) :=
  ⟨fun b o h => hb.cell (p := ⟨b, o, none⟩) h, fun b o h => hb.frozen (p := ⟨b, o, none⟩) h⟩
/-- how far Parse has come -/
structure PaI (num : WV → Int) (w wr : World) (l : List UInt8) (k m j d g : Nat) (vs : List (List WV)) : Prop where
  rows : rowsV (l.drop k) j = some (vs, d - k)
  kd : k ≤ d
  dn : d ≤ l.length
  own : OwnA wr 65 8 Fr.cells (.slice (some ⟨g, 0, none⟩) m m) (vs.map (ofG num) ++ List.replicate (m - j) fr0)
  be : Below w.heap.size w wr
  fr : w.heap.size ≤ g
theorem rows_at {l : List UInt8} {k d j : Nat} {vs : List (List WV)} (h : rowsV (l.drop k) j = some (vs, d - k)) (hk : k ≤ d) : rowsV (l.drop k) (j + 1) = match takeS frK (l.drop d) with | none => none | some (v, u) => some (vs ++ [v], d - k + u) := by
  rw [rows_next h, List.drop_drop, show k + (d - k) = d from by omega]
theorem rows_len_j {b : List UInt8} {j t : Nat} {vs : List (List WV)} (h : rowsV b j = some (vs, t)) : vs.length = j := (rows_take b j vs t h).1
theorem PaI.next {num : WV → Int} {w wr wx w' : World} {l : List UInt8} {k m j d g u : Nat} {vs : List (List WV)} {v : List WV} (h : PaI num w wr l k m j d g vs) (hjm : j < m) (ht : takeS frK (l.drop d) = some (v, u)) (hb : Below wr.heap.size wr wx)
    (hown : OwnA w' 65 8 Fr.cells (.slice (some ⟨g, 0, none⟩) m m) ((vs.map (ofG num) ++ List.replicate (m - j) fr0).set j (ofG num v))) (hc : Chg (fun i => i = g) wx w') : PaI num w w' l k m (j + 1) (d + u) g (vs ++ [v]) := by
  have hl := rows_len_j h.rows
  have hu := (put_takeS frK _ _ _ ht).2.2.2.2
  rw [List.length_drop] at hu
  have hkd := h.kd
  have hdn := h.dn
  have e : (vs.map (ofG num) ++ List.replicate (m - j) fr0).set j (ofG num v) = (vs ++ [v]).map (ofG num) ++ List.replicate (m - (j + 1)) fr0 := by
    rw [show m - j = (m - (j + 1)) + 1 from by omega, List.replicate_succ, List.set_append, if_neg (by rw [List.length_map]; omega), List.length_map, hl, Nat.sub_self, List.set_cons_zero, List.map_append]
    simp
  rw [e] at hown
  have hb1 := ext_under h.be (Nat.le_refl _) hb
  refine ⟨?_, by omega, by omega, hown, hb1.trans (hc.below hb1.size fun i hi hs => by have := h.fr; omega), h.fr⟩
  rw [rows_at h.rows h.kd, ht, show d + u - k = d - k + u from by omega]
theorem PaI.slot {num : WV → Int} {w wr : World} {l : List UInt8} {k m j d g : Nat} {vs : List (List WV)} (h : PaI num w wr l k m j d g vs) (hjm : j < m) : (vs.map (ofG num) ++ List.replicate (m - j) fr0)[j]? = some fr0 := by
  have hl := rows_len_j h.rows
  rw [List.getElem?_append_right (by rw [List.length_map]; omega), List.length_map, hl, Nat.sub_self, List.getElem?_replicate, if_pos (by omega)]
end Go.Proofs.Ytoneechcclndaaa.FForm
