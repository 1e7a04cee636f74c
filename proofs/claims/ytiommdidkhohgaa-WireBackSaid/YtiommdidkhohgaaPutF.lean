/- wire: the program's Put. -/
import Derived.Test.YtiommdidkhohgaaPutE
import Derived.BigRegion
import Derived.WalkLawsBesides
import Derived.Deep.RegionLaw
import Derived.Outline
import Derived.BigQuiet
import Derived.Deep.QuietTactic
import Derived.Deep.RegionWith
import Derived.Deep.RegionHeld3
import Derived.Deep.DrawnRows
import Derived.Deep.LoopGhost
import Derived.Deep.DeepCutAuto
import Derived.Laws.EntriesVeiled
namespace Go.Proofs.Ytiommdidkhohgaa.Wire
open Go.RowKit Go.ChangeShapes Go.WideShapes Go.ChangeAt
set_option linter.unusedVariables false
set_option linter.unusedSimpArgs false
attribute [local go_sem ↓] Go.wp_at_zero Go.wp_at_succ
open Go.Shelf Go.Proofs.Ytiommdidkhohgaa.Word

/-- what Put leaves -/
def RetPut (w : World) (x : List UInt8 × Int) (e : Ending) (w' : World) : Prop :=
  Below w.heap.size w w' ∧ ∃ A n c, e = .returned (.tuple #[.slice A n c, .int .i64 x.2]) ∧ OwnA w' 5 1 encB (.slice A n c) x.1 ∧ ∀ k, (Value.slice A n c).ownBlock = some k → w.heap.size ≤ k
theorem RetPut.err {w w' : World} (hb : Below w.heap.size w w') (er : Int) {e : Ending} (he : e = .returned (.tuple #[.slice none 0 0, .int .i64 er])) : RetPut w ([], er) e w' :=
  ⟨hb, none, 0, 0, he, OwnA.nil_ _ _ _ _, fun k hk => by cases hk⟩

theorem fits_len : ∀ (ks : List Kd) (vs : List WV), fitsS ks vs = true → ks.length = vs.length
  | [], [], _ => rfl
  | k :: ks, v :: vs, h => by
    simp only [fitsS, Bool.and_eq_true] at h
    rw [List.length_cons, List.length_cons, fits_len ks vs h.2]
  | [], v :: vs, h => by cases h
  | k :: ks, [], h => by cases h
theorem fits_drop {ks : List Kd} {rs : List Wr} {j : Nat} {k : Kd} {r : Wr} (hk : ks.drop j = k :: ks.drop (j + 1)) (hr : rs.drop j = r :: rs.drop (j + 1)) :
    fitsS (ks.drop j) ((rs.drop j).map Wr.v) = (fitsK k r.v && fitsS (ks.drop (j + 1)) ((rs.drop (j + 1)).map Wr.v)) := by rw [hk, hr]; rfl
theorem put_drop {ks : List Kd} {rs : List Wr} {j : Nat} {k : Kd} {r : Wr} (hk : ks.drop j = k :: ks.drop (j + 1)) (hr : rs.drop j = r :: rs.drop (j + 1)) :
    putS (ks.drop j) ((rs.drop j).map Wr.v) = putK k r.v ++ putS (ks.drop (j + 1)) ((rs.drop (j + 1)).map Wr.v) := by rw [hk, hr]; rfl
theorem any_take {rs : List Wr} {j : Nat} {r : Wr} (h : rs[j]? = some r) : ((rs.take (j + 1)).map Wr.v).any longV = (((rs.take j).map Wr.v).any longV || longV r.v) := by
  rw [List.take_add_one, h]; simp

/-- how far the first loop of Put has come -/
structure P1 (w wr : World) (ks : List Kd) (rs : List Wr) (j : Nat) (lg : Bool) : Prop where
  fit : fitsS ks (rs.map Wr.v) = fitsS (ks.drop j) ((rs.drop j).map Wr.v)
  lg : lg = ((rs.take j).map Wr.v).any longV
  be : Below w.heap.size w wr

theorem putK_len (k : Kd) (v : WV) (hw : v.Wf) (hl : longV v = false) : (putK k v).length ≤ 300000 := by
  simp only [longV, Bool.or_eq_false_iff, decide_eq_false_iff_not] at hl
  have p1 : ∀ m, m < p64 → (putW m).length ≤ 10 := fun m hm => putW_len (p64_lt hm)
  cases k with
  | nat => simp only [putK]; have := p1 _ hw.1; omega
  | int => simp only [putK]; have := p1 _ (fold_lt hw.2.1 hw.2.2.1); omega
  | flag => simp only [putK]; split <;> simp
  | bytes =>
    simp only [putK, List.length_append]
    have := p1 v.b.length (by unfold p64; omega)
    omega
  | row =>
    simp only [putK, List.length_append]
    have := p1 v.l.length (by unfold p64; omega)
    have := rowW_le v.l hw.2.2.2.1
    omega
/-- how far the second loop of Put has come -/
structure P2 (wr wx : World) (ks : List Kd) (rs : List Wr) (j : Nat) (A : Option Addr) (n c : Nat) (acc : List UInt8) : Prop where
  eq : putS ks (rs.map Wr.v) = acc ++ putS (ks.drop j) ((rs.drop j).map Wr.v)
  own : OwnA wx 5 1 encB (.slice A n c) acc
  fr : ∀ k, (Value.slice A n c).ownBlock = some k → wr.heap.size ≤ k
  be : Below wr.heap.size wr wx
  len : acc.length ≤ 300000 * j
theorem P2.next {wr wx w1 w2 : World} {ks : List Kd} {rs : List Wr} {j : Nat} {A A' : Option Addr} {n c n' c' : Nat} {acc p : List UInt8} (h : P2 wr wx ks rs j A n c acc) (hb : Below wx.heap.size wx w1) (hd : putS (ks.drop j) ((rs.drop j).map Wr.v) = p ++ putS (ks.drop (j + 1)) ((rs.drop (j + 1)).map Wr.v))
    (hp : p.length ≤ 300000) (hown : OwnA w2 5 1 encB (.slice A' n' c') (acc ++ p)) (hc : Chg (fun k => (Value.slice A n c).ownBlock = some k) w1 w2)
    (hat : (Value.slice A' n' c').ownBlock = (Value.slice A n c).ownBlock ∨ (Value.slice A' n' c').ownBlock = some w1.heap.size) : P2 wr w2 ks rs (j + 1) A' n' c' (acc ++ p) := by
  have hb1 := ext_under h.be (Nat.le_refl _) hb
  refine ⟨by rw [h.eq, hd, List.append_assoc], hown, fun k hk => ?_, hb1.trans (hc.below hb1.size fun i hi hs => by have := h.fr _ hs; omega), by rw [List.length_append]; have := h.len; omega⟩
  rcases hat with hat | hat
  · exact h.fr k (hat ▸ hk)
  · rw [hat] at hk; injection hk with hk; have := hb1.size; omega

set_option maxHeartbeats 8000000 in
set_option maxRecDepth 100000 in
theorem put_any' (s : ByteArray) (rs : List Wr) (A : Option Addr) (n cap : Nat) (w : World) (hs : s.data.toList.length ≤ 1000000) (hl : VRd w A n rs) :
    Calls Try.prog 24 #[.string s, .slice A n cap] w (RetPut w (putP s.data.toList (rs.map Wr.v))) := by
  obtain ⟨i0, hi, hz, hz1, hz2⟩ := info_parts byInfo
  have hsc := fun W => schema_any s W hs
  generalize s.data.toList = sl at *
  have HL := Lib.hid hl
  have hnb : n ≤ 1000000 := by rw [hl.n.out]; exact hl.le
  cases hsp : schemaP sl with
  | none =>
    rw [hsp] at hsc
    have ht : Hid (putP sl (rs.map Wr.v) = ([], 2)) := by unfold Hid putP; rw [hsp]
    clear hl
    go_enter Try.func24, Try.ntmps24
    go_wp2_with (go_at_call 40; refine (hsc _).mono ?_; rintro e w1 ⟨hb, rfl⟩)
    refine bodyPost_ret (v := .tuple #[.slice none 0 0, .int .i64 2]) (by simp [results, Try.results24, go_sem]) rfl ?_
    rw [ht.out]
    exact RetPut.err hb 2 rfl
  | some ks =>
    rw [hsp] at hsc
    have ht : Hid (putP sl (rs.map Wr.v) = if fitsS ks (rs.map Wr.v) then (if (rs.map Wr.v).any longV then ([], 3) else (putS ks (rs.map Wr.v), 0)) else ([], 2)) := by unfold Hid putP; rw [hsp]
    have hk64 : Hid (ks.length ≤ 64) := by
      unfold schemaP at hsp
      split at hsp
      · rw [Hid, kds_length _ _ hsp]; assumption
      · cases hsp
    clear hl hsp
    by_cases hkn : ks.length = n
    · have hkq : ∀ kn : Nat, kn = n → ((kn : Int) != (n : Int)) = false := fun kn h => by rw [h]; simp
      go_enter Try.func24, Try.ntmps24
      go_wp2_with (go_at_call 40; refine (hsc _).mono ?_; rintro e W ⟨hb, kv, rfl, hko, hkf⟩; obtain ⟨kA, kn, kc, rfl, hkn', hkle, hkmx, hknil⟩ := hko.form; have HK : Hid (OwnA W 76 3 Kd.cells (.slice kA kn kc) ks ∧ Below w.heap.size w W) := ⟨hko, hb⟩; have hkk : kn = n := hkn'.out.trans hkn; have hq1 : ((kn : Int) != (n : Int)) = false := (hkq kn hkk); clear hko hb hkf)
      go_loopg [8, 30] n (fun gk vg vj wr => ∃ (j : Nat) (lg : Bool), vj = .int .i64 (j : Int) ∧ vg = .bool lg ∧ n ≤ j + gk ∧ j ≤ n ∧ Hid (P1 W wr ks rs j lg))
      case atStart => exact ⟨0, false, rfl, rfl, by omega, by omega, rfl, rfl, Below.refl _ _⟩
      case round =>
        obtain ⟨j, lg, rfl, rfl, hgk, hj, hP⟩ := hrel
        have hbw : Hid (Below w.heap.size w wr) := HK.out.2.trans (hP.out.be.mono HK.out.2.size)
        by_cases hjn : j < n
        · have hj1 : j < ks.length := by rw [hkn]; exact hjn
          have hj2 : j < rs.length := by rw [← HL.out.n.out]; exact hjn
          have HR := Lib.hid (HL.out.ext hbw.out)
          have hkx := List.getElem?_eq_getElem hj1
          have hrx := List.getElem?_eq_getElem hj2
          obtain ⟨kb, ko, rfl, hkb, c0, c1, c2'⟩ := Kd.at_ (Sl.ext (HK.out.1.sl Kd.cells_len) hP.out.be) hkx
          obtain ⟨vb, vo, rfl, hvb, y0, y1, y2, y3, y4⟩ := Wr.at_ HR.out.sl hrx
          have hrd := Lib.hid (HR.out.rd _ (List.getElem_mem hj2))
          have HF := Lib.hid (And.intro (fits_drop (List.drop_eq_getElem_cons hj1) (List.drop_eq_getElem_cons hj2)) (any_take hrx))
          generalize ks[j] = k at *
          generalize rs[j] = r at *
          have b0 : (0 : Int) ≤ (j : Int) := Int.natCast_nonneg _
          have b2 : (j : Int) < (kn : Int) := by omega
          have b4 : (j : Int) < (n : Int) := by omega
          have kl : kb ≠ wr.heap.size := by omega
          have hbare := fun W => bare_any r k W
          have hsm : ∀ W2, Hid (Below wr.heap.size wr W2) → Calls Try.prog 44 #[(r.bare k).agg, wr0.agg] W2 fun e w' => e = .returned (.bool (fitsK k r.v)) ∧ Below W2.heap.size W2 w' := fun W2 h2 => by
            have h := same_any (r.bare k) wr0 W2 ((hrd.out.ext h2.out).bare k) (wr0_rd W2)
            rw [fits_bare] at h
            exact h
          rw [wr0_agg] at hsm
          unfold Wr.agg at hbare
          have hba : ∃ ba, ba = (r.bare k).agg := ⟨_, rfl⟩
          obtain ⟨ba, hba⟩ := hba
          rw [← show ba = .agg #[.int .u64 ((r.bare k).v.n : Int), .int .i64 (r.bare k).v.i, .bool (r.bare k).v.f, .slice (r.bare k).bA (r.bare k).bn (r.bare k).bc, .slice (r.bare k).lA (r.bare k).ln (r.bare k).lc] from hba] at hbare
          rw [← hba] at hsm
          unfold fnV at c1 c2'
          cases hfk : fitsK k r.v with
          | false =>
            rw [hfk] at hsm
            have HBA := Lib.hid (And.intro hbare hsm)
            have ht2 : Hid (putP sl (rs.map Wr.v) = ([], 2)) := by rw [Hid, ht.out, if_neg (by rw [hP.out.fit, HF.out.1, hfk]; simp)]
            clear hkx hrx hba hbare hsm hfk
            generalize k.byte = by' at *
            go_upto_region 8 with fail
            go_cut [44] (fun s44 wx => s44 = .bool true ∧ Hid (Below wr.heap.size wr wx))
            case first =>
              go_region_with (first | (go_at_call 45; refine (HBA.out.1 _).mono ?_; rintro e w1 ⟨rfl, hb1⟩; have hb4 : Below wr.heap.size wr w1 := b4_ad hb1) | (go_at_call 44; refine (HBA.out.2 _ (Lib.hid hb4)).mono ?_; rintro e w2 ⟨rfl, hb2⟩; have hb5 := Lib.hid (ext_under hb4 (Nat.le_refl _) hb2)))
              all_goals (go_wp2_with fail; go_meet; exact ⟨rfl, hb5⟩)
            case rest =>
              obtain ⟨rfl, hwx⟩ := hcut
              go_wp2
              refine bodyPost_ret (v := .tuple #[.slice none 0 0, .int .i64 2]) (by simp [results, Try.results24, go_sem]) rfl ?_
              rw [ht2.out]
              exact RetPut.err (ext_under hbw.out (Nat.le_refl _) hwx.out) 2 rfl
          | true =>
            rw [hfk] at hsm
            have HBA := Lib.hid (And.intro hbare hsm)
            obtain ⟨q1, hq1'⟩ : ∃ q, q = decide (262144 < r.bn) := ⟨_, rfl⟩
            obtain ⟨q2, hq2'⟩ : ∃ q, q = decide (4096 < r.ln) := ⟨_, rfl⟩
            have hlv : Hid (longV r.v = (q1 || q2)) := by rw [Hid, hq1', hq2', hrd.out.bn, hrd.out.ln]; rfl
            have d1 : decide ((262144 : Int) < (r.bn : Int)) = q1 := by rw [hq1', Bool.eq_iff_iff]; simp; omega
            have d2 : decide ((4096 : Int) < (r.ln : Int)) = q2 := by rw [hq2', Bool.eq_iff_iff]; simp; omega
            have hN : ∀ lg2, lg2 = (lg || (q1 || q2)) → ∀ wx, Below wr.heap.size wr wx → P1 W wx ks rs (j + 1) lg2 := fun lg2 h2 wx hx =>
              ⟨by rw [hP.out.fit, HF.out.1, hfk]; rfl, by rw [h2, HF.out.2, ← hP.out.lg, hlv.out], ext_under hP.out.be (Nat.le_refl _) hx⟩
            have HN := Lib.hid hN
            clear hkx hrx hba hbare hsm hfk hq1' hq2' hN
            generalize k.byte = by' at *
            go_upto_region 8 with fail
            go_cut [44] (fun s44 wx => s44 = .bool false ∧ Hid (Blk wx wr.heap.size 34 #[.int .u64 (r.v.n : Int), .int .i64 r.v.i, .bool r.v.f, .slice r.bA r.bn r.bc, .slice r.lA r.ln r.lc] ∧ Below wr.heap.size wr wx))
            case first =>
              go_region_with (first | (go_at_call 45; refine (HBA.out.1 _).mono ?_; rintro e w1 ⟨rfl, hb1⟩; have hB9 : Blk w1 wr.heap.size 34 #[.int .u64 (r.v.n : Int), .int .i64 r.v.i, .bool r.v.f, .slice r.bA r.bn r.bc, .slice r.lA r.ln r.lc] := (by with_reducible exact blk_1 hb1); have hb4 : Below wr.heap.size wr w1 := b4_ad hb1) | (go_at_call 44; refine (HBA.out.2 _ (Lib.hid hb4)).mono ?_; rintro e w2 ⟨rfl, hb2⟩; have hb5 := Lib.hid (And.intro (hB9.ext hb2) (ext_under hb4 (Nat.le_refl _) hb2))))
              all_goals (go_wp2_with fail; go_meet; exact ⟨rfl, hb5⟩)
            case rest =>
              obtain ⟨rfl, hwx⟩ := hcut
              have z3 : wc.cell? ⟨wr.heap.size, 3, none⟩ = some (.slice r.bA r.bn r.bc) := hwx.out.1.cell 3
              have z4 : wc.cell? ⟨wr.heap.size, 4, none⟩ = some (.slice r.lA r.ln r.lc) := hwx.out.1.cell 4
              cases lg <;> cases q1 <;> cases q2 <;> (
                go_wp2
                go_roundg (gk - 1)
                case measure => omega
                case rel => exact ⟨j + 1, _, by go_num, rfl, by omega, by omega, HN.out _ rfl _ hwx.out.2⟩)
        · have hfit : Hid (fitsS ks (rs.map Wr.v) = true) := by
            rw [Hid, hP.out.fit, List.drop_of_length_le (by omega), List.drop_of_length_le (by rw [← HL.out.n.out]; omega)]; rfl
          have hlong : Hid (lg = (rs.map Wr.v).any longV) := by
            have h := hP.out.lg
            rw [List.take_of_length_le (by rw [← HL.out.n.out]; omega)] at h
            exact h
          have b2 : ¬ (j : Int) < (n : Int) := by omega
          cases lg with
          | true =>
            have ht2 : Hid (putP sl (rs.map Wr.v) = ([], 3)) := by rw [Hid, ht.out, if_pos hfit.out, if_pos hlong.out.symm]
            go_wp2
            refine bodyPost_ret (v := .tuple #[.slice none 0 0, .int .i64 3]) (by simp [results, Try.results24, go_sem]) rfl ?_
            rw [ht2.out]
            exact RetPut.err hbw.out 3 rfl
          | false =>
            have ht2 : Hid (putP sl (rs.map Wr.v) = (putS ks (rs.map Wr.v), 0)) := by rw [Hid, ht.out, if_pos hfit.out, if_neg (by rw [← hlong.out]; simp)]
            go_wp2
            generalize wr = W1 at *
            go_loopg [11, 62] n (fun g vo vj wx => ∃ (j : Nat) (A2 : Option Addr) (n2 c2 : Nat) (acc : List UInt8), vj = .int .i64 (j : Int) ∧ vo = .slice A2 n2 c2 ∧ n ≤ j + g ∧ j ≤ n ∧ Hid (P2 W1 wx ks rs j A2 n2 c2 acc))
            case atStart => exact ⟨0, none, 0, 0, [], rfl, rfl, by omega, by omega, ⟨rfl, OwnA.nil_ _ _ _ _, (fun k hk => by cases hk), Below.refl _ _, Nat.zero_le _⟩⟩
            case round =>
              obtain ⟨q, A2, n2, c2, acc, rfl, rfl, hg2, hq, hP2⟩ := hrel
              by_cases hqn : q < n
              · have hj1 : q < ks.length := by rw [hkn]; exact hqn
                have hj2 : q < rs.length := by rw [← HL.out.n.out]; exact hqn
                have hbx : Hid (Below w.heap.size w wr) := ext_under hbw.out (Nat.le_refl _) hP2.out.be
                have HR := Lib.hid (HL.out.ext hbx.out)
                have hkx := List.getElem?_eq_getElem hj1
                have hrx := List.getElem?_eq_getElem hj2
                obtain ⟨kb, ko, hkA, hkb, c0, c1, c2'⟩ := Kd.at_ (Sl.ext (HK.out.1.sl Kd.cells_len) (ext_under hP.out.be (Nat.le_refl _) hP2.out.be)) hkx
                subst hkA
                obtain ⟨vb, vo, hvA, hvb, y0, y1, y2, y3, y4⟩ := Wr.at_ HR.out.sl hrx
                subst hvA
                have hrd := Lib.hid (HR.out.rd _ (List.getElem_mem hj2))
                have HF := Lib.hid (put_drop (List.drop_eq_getElem_cons hj1) (List.drop_eq_getElem_cons hj2))
                have hnl : longV rs[q].v = false := by
                  have h := hlong.out
                  cases hv : longV rs[q].v with
                  | false => rfl
                  | true => exact absurd (List.any_eq_true.2 ⟨rs[q].v, List.mem_map.2 ⟨rs[q], List.getElem_mem hj2, rfl⟩, hv⟩) (by rw [← h]; simp)
                generalize ks[q] = k at *
                generalize rs[q] = r at *
                have hplen := putK_len k r.v hrd.out.wf hnl
                have h1 : Hid (acc.length + (putK k r.v).length ≤ maxLen) := by have := hP2.out.len; rw [Hid]; unfold maxLen; omega
                have h2 : Hid ((acc.length + (putK k r.v).length) * 1 ≤ 140737488355328) := by have := hP2.out.len; rw [Hid]; omega
                have b0 : (0 : Int) ≤ (q : Int) := Int.natCast_nonneg _
                have b2 : (q : Int) < (n : Int) := by omega
                have b3 : decide (q < n) = true := decide_eq_true hqn
                have hen := pk_enters k
                have hpk : ∀ W2, Hid (Below wr.heap.size wr W2) → Calls Try.prog k.put #[r.agg] W2 (RetA W2 5 1 encB (putK k r.v)) := fun W2 h => pk_any k r W2 (hrd.out.ext h.out)
                unfold Wr.agg at hpk
                have HPK := Lib.hid hpk
                have HPL := Lib.hid hplen
                unfold fnV at c1 c2'
                clear hkx hrx hpk hplen hnl
                generalize k.byte = by' at *
                generalize k.take = ft at *
                generalize k.put = fp at *
                go_upto_region 18 with fail
                go_region_law (first | (go_simp; refine (HPK.out _ ?_).mono ?_; (with_reducible exact hb_ad wr _); rintro e w1 ⟨v1, rfl, hown1, hfr1, hb1⟩; obtain ⟨A1, n1, c1', rfl, hn1, hle1, hmx1, hnil1⟩ := hown1.form; have HP := Lib.hid (And.intro hown1 (b4_ad hb1)); clear hown1 hfr1 hb1; dsimp only) | (refine step_append_a _ rfl _ _ _ rfl 5 i0 _ 1 1 Try.underlying22 hi hz hz1 hz2 rfl (by decide) encB_len encB_one _ acc (by rfl) (hP2.out.own.ext HP.out.2) _ A1 (putK k r.v) n1 c1' (by rfl) hn1.out (HP.out.1.sl encB_len) h1.out h2.out ?_; intro v' w' hown' hchg hat; obtain ⟨A3, n3, c3, rfl, hn3, hle3, hmx3, hnil3⟩ := hown'.form; have HA := Lib.hid (And.intro hown' (And.intro hchg hat)); clear hown' hchg hat))
                all_goals (
                  go_wp2
                  go_roundg (gk - 1)
                  case measure => omega
                  case rel => exact ⟨q + 1, A3, n3, c3, acc ++ putK k r.v, by go_num, rfl, by omega, by omega, hP2.out.next HP.out.2 HF.out HPL.out HA.out.1 HA.out.2.1 HA.out.2.2⟩)
              · have hout : Hid (acc = putS ks (rs.map Wr.v)) := by
                  rw [Hid, hP2.out.eq, List.drop_of_length_le (show ks.length ≤ q by omega), List.drop_of_length_le (show rs.length ≤ q by rw [← HL.out.n.out]; omega)]; simp [putS]
                have b2 : ¬ (q : Int) < (n : Int) := by omega
                have b3 : decide (q < n) = false := decide_eq_false hqn
                have hcl := Lib.hid (clip_any acc A2 n2 c2 wr hP2.out.own)
                go_wp2_with (go_at_call 46; refine hcl.out.mono ?_; rintro e w3 ⟨A4, n4, c4, rfl, hown4, hbl4, rfl⟩)
                refine bodyPost_ret (v := .tuple #[.slice A4 n4 c4, .int .i64 0]) (by simp [results, Try.results24, go_sem]) rfl ?_
                rw [ht2.out, ← hout.out]
                exact ⟨ext_under hbw.out (Nat.le_refl _) hP2.out.be, A4, n4, c4, rfl, hown4, fun k hk => Nat.le_trans hbw.out.size (hP2.out.fr k (hbl4 k hk))⟩
    · have ht2 : Hid (putP sl (rs.map Wr.v) = ([], 2)) := by
        rw [Hid, ht.out, if_neg]
        intro hf
        have := fits_len _ _ hf
        rw [List.length_map, ← HL.out.n.out] at this
        exact hkn this
      have hne' : ∀ kn, Hid (kn = ks.length) → ((kn : Int) != (n : Int)) = true ∧ (kn != n) = true ∧ ¬ kn = n := fun kn h => by
        have := h.out
        refine ⟨by simp; omega, by simp; omega, by omega⟩
      go_enter Try.func24, Try.ntmps24
      go_wp2_with (go_at_call 40; refine (hsc _).mono ?_; rintro e W ⟨hb, kv, rfl, hko, hkf⟩; obtain ⟨kA, kn, kc, rfl, hkn', hkle, hkmx, hknil⟩ := hko.form; have HB := Lib.hid hb; obtain ⟨hne, hne2, hne3⟩ := hne' kn hkn'; clear hko hb hkf)
      refine bodyPost_ret (v := .tuple #[.slice none 0 0, .int .i64 2]) (by simp [results, Try.results24, go_sem]) rfl ?_
      rw [ht2.out]
      exact RetPut.err HB.out 2 rfl
end Go.Proofs.Ytiommdidkhohgaa.Wire
