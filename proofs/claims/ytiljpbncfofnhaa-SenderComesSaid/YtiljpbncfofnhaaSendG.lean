/- sender: Load of the program. -/
import Derived.Test.YtiljpbncfofnhaaSendF
import Derived.Outline
import Derived.BigQuiet
import Derived.Deep.QuietTactic
import Derived.Deep.RegionWith
import Derived.Deep.RegionHeld3
import Derived.Deep.DrawnRows
import Derived.Deep.LoopGhost
import Derived.Deep.DeepCutAuto
import Derived.Laws.EntriesVeiled
import Derived.BigRegion
import Derived.WalkLawsBesides
import Derived.Deep.RegionLaw
namespace Go.Proofs.Ytiljpbncfofnhaa.Send
open Go.RowKit Go.ChangeShapes Go.WideShapes Go.ChangeAt
set_option linter.unusedVariables false
set_option linter.unusedSimpArgs false
attribute [local go_sem ↓] Go.wp_at_zero Go.wp_at_succ

def wrongB (n : Nat) : Bool := decide (n < 1) || decide (48 < n)
theorem wrong_any (A : Option Addr) (n cap : Nat) (w : World) (hn : n ≤ maxLen) : Calls Try.prog 59 #[.slice A n cap] w fun e w' => e = .returned (.bool (wrongB n)) ∧ w = w' := by
  unfold maxLen at hn
  by_cases h1 : n < 1
  · have he := Lib.hid (show wrongB n = true by simp [wrongB, h1])
    have hd : decide ((n : Int) < 1) = true := by simp; omega
    go_enter Try.func59, Try.ntmps59
    go_wp2
    go_ret
    exact ⟨ret_bool he.out.symm, rfl⟩
  · by_cases h2 : 48 < n
    · have he := Lib.hid (show wrongB n = true by simp [wrongB, h2])
      go_enter Try.func59, Try.ntmps59
      go_wp2
      go_ret
      exact ⟨ret_bool (by rw [he.out]; simp; omega), rfl⟩
    · have he := Lib.hid (show wrongB n = false by simp [wrongB]; omega)
      go_enter Try.func59, Try.ntmps59
      go_wp2
      go_ret
      exact ⟨ret_bool (by rw [he.out]; simp; omega), rfl⟩

def wIdx : List Ch → Nat → Int
  | [], _ => -1
  | c :: r, k => if wrongB c.n then k else wIdx r (k + 1)
theorem wIdx_any : ∀ (l : List Ch) (k : Nat), decide (0 ≤ wIdx l k) = l.any (fun c => wrongB c.n)
  | [], k => by simp [wIdx]
  | c :: r, k => by
    unfold wIdx
    cases h : wrongB c.n with
    | true => simp [h]
    | false => simp [h, wIdx_any r (k + 1)]

theorem windex_any (l : List Ch) (A : Option Addr) (n cap : Nat) (w : World) (hl : ChSl w w.heap.size A l) (hok : ∀ c ∈ l, Ch.Ok w c) (hn : Hid (n = l.length)) (hm : n ≤ maxLen) :
    Calls Try.prog 90 #[.slice A n cap, .func (.func 59) #[] #[]] w fun e w' => e = .returned (.int .i64 (wIdx l 0)) ∧ w = w' := by
  unfold maxLen at hm
  go_enter Try.func90, Try.ntmps90
  go_wp2
  go_loop [8] (fun v => ∃ j : Nat, j ≤ n ∧ v = .int .i64 j ∧ Hid (wIdx l 0 = wIdx (l.drop j) j)) (fun v => n - (intOf v).toNat)
  case atStart => exact ⟨0, by omega, rfl, rfl⟩
  case round =>
    obtain ⟨j, hj, rfl, hf⟩ := hrel
    by_cases hlt : j < n
    · have hlt' : j < l.length := by rw [← hn.out]; exact hlt
      have hx : l[j]? = some l[j] := List.getElem?_eq_getElem hlt'
      have hc := hok l[j] (List.getElem_mem hlt')
      have hd := Lib.hid (List.drop_eq_getElem_cons hlt')
      obtain ⟨b, off, rfl, hb, c0⟩ := ChSl.at_ hl hx
      generalize l[j] = c at *
      have hW := Lib.hid (wrong_any c.A c.n c.cap w hc.le)
      have b1 : (0 : Int) ≤ (j : Int) := Int.natCast_nonneg _
      have b2 : (j : Int) < (n : Int) := by omega
      clear hx hc
      cases hw : wrongB c.n with
      | true =>
        rw [hw] at hW
        go_wp2_with (go_at_call 59; refine (hW.out).mono ?_; rintro e w' ⟨rfl, rfl⟩)
        go_ret
        exact ⟨ret_int (by rw [hf.out, hd.out, wIdx, hw]; rfl), rfl⟩
      | false =>
        rw [hw] at hW
        have hstep := Lib.hid (show wIdx l 0 = wIdx (l.drop (j + 1)) (j + 1) by rw [hf.out, hd.out, wIdx, hw]; rfl)
        go_wp2_with (go_at_call 59; refine (hW.out).mono ?_; rintro e w' ⟨rfl, rfl⟩)
        go_round
        case rel => exact ⟨j + 1, by omega, by go_num, hstep⟩
        case measure => simp [intOf]; omega
    · go_wp2
      go_ret
      exact ⟨ret_int (by rw [hf.out, List.drop_of_length_le (by rw [← hn.out]; omega)]; rfl), rfl⟩

theorem wcontains_any (l : List Ch) (A : Option Addr) (n cap : Nat) (w : World) (hl : ChSl w w.heap.size A l) (hok : ∀ c ∈ l, Ch.Ok w c) (hn : Hid (n = l.length)) (hm : n ≤ maxLen) :
    Calls Try.prog 61 #[.slice A n cap, .func (.func 59) #[] #[]] w fun e w' => e = .returned (.bool (l.any fun c => wrongB c.n)) ∧ w = w' := by
  have hI := Lib.hid (windex_any l A n cap w hl hok hn hm)
  have hA := Lib.hid (wIdx_any l 0)
  generalize wIdx l 0 = i at *
  go_enter Try.func61, Try.ntmps61
  go_wp2_with (go_at_call 90; refine (hI.out).mono ?_; rintro e w' ⟨rfl, rfl⟩)
  go_ret
  exact ⟨ret_bool hA.out, rfl⟩

theorem put_any (w : World) (g : Nat) (A : Option Addr) (nw cw : Nat) (fv : Value) (sent acked waited patience : Int) (wp ps : List Pc) (hb : Blk w g 96 (mkS (.slice A nw cw) fv sent acked waited patience))
    (hown : OwnA w 57 3 Pc.cells (.slice A nw cw) wp) (B : Option Addr) (n c : Nat) (hsl : Sl w w.heap.size 3 Pc.cells B ps) (hn : Hid (n = ps.length)) (hm : wp.length + ps.length ≤ 2000000) :
    Calls Try.prog 62 #[.pointer (some ⟨g, 1, none⟩), .slice B n c] w fun e w' => e = .returned (.tuple #[]) ∧ ∃ A' n' c' w2, w2.setCell ⟨g, 1, none⟩ (.slice A' n' c') = w' ∧
      OwnA w2 57 3 Pc.cells (.slice A' n' c') (wp ++ ps) ∧ Chg (fun k => (Value.slice A nw cw).ownBlock = some k) w w2 ∧ ((Value.slice A' n' c').ownBlock = (Value.slice A nw cw).ownBlock ∨ (Value.slice A' n' c').ownBlock = some w.heap.size) ∧
      Blk w2 g 96 (mkS (.slice A nw cw) fv sent acked waited patience) := by
  have c1 : w.cell? ⟨g, 1, none⟩ = some (.slice A nw cw) := hb.cell 1
  obtain ⟨i0, hi, hz, hz1, hz2⟩ := info_parts pcCloneInfo
  have H := Lib.hid (And.intro hb (And.intro hown hsl))
  have a1 : Hid (wp.length + ps.length ≤ maxLen) := by rw [Hid]; unfold maxLen; omega
  have a2 : Hid ((wp.length + ps.length) * 40 ≤ 140737488355328) := by rw [Hid]; omega
  clear hb hown hsl hm
  go_enter Try.func62, Try.ntmps62
  go_wp2_with (at_builtin; refine wpList_append_a _ rfl _ _ _ rfl 57 i0 _ 3 40 Try.underlying40 hi hz hz1 hz2 rfl (by decide) Pc.cells_len Pc.cells_one _ wp (by rfl) H.out.2.1 _ B ps n c (by rfl) hn.out H.out.2.2 a1.out a2.out ?_; intro v' w2 hown' hchg hat; obtain ⟨A', n', c', rfl, _, _, _, _⟩ := hown'.form; have hb2 := H.out.1.chg hchg (fun hk => H.out.2.1.apart H.out.1 (by decide) hk); have g2 : w2.cell? ⟨g, 1, none⟩ = some (.slice A nw cw) := hb2.cell 1; have k2 := hb2.free 1; have HO := Lib.hid (And.intro hown' (And.intro hchg (And.intro hat hb2))); clear hown' hchg hat hb2)
  go_end0
  exact ⟨rfl, A', n', c', w2, rfl, HO.out⟩

/-- chunks, each with whether it is the last one of n -/
def flg (n : Nat) : Nat → List (List UInt8) → List (Bool × List UInt8)
  | _, [] => []
  | i, b :: r => (decide (i + 1 = n), b) :: flg n (i + 1) r
theorem flg_append (n : Nat) : ∀ (l m : List (List UInt8)) (i : Nat), flg n i (l ++ m) = flg n i l ++ flg n (i + l.length) m
  | [], m, i => rfl
  | b :: l, m, i => by simp [flg, flg_append n l m, Nat.add_assoc, Nat.add_comm 1]
theorem flg_len (n : Nat) : ∀ (l : List (List UInt8)) (i : Nat), (flg n i l).length = l.length
  | [], i => rfl
  | b :: l, i => by simp [flg, flg_len n l]

def wrongC (cs : List Ch) : Bool := cs.isEmpty || cs.any fun c => wrongB c.n
def loadE (s : St) (cs : List Ch) : Int := if wrongC cs then 2 else if s.fl = [] ∧ s.wt = [] then 0 else 4
def loadW (s : St) (cs : List Ch) (j : Nat) : St := { s with wt := flg cs.length 0 ((cs.map Ch.bs).take j) }
def loadS (s : St) (cs : List Ch) : St := if loadE s cs = 0 then loadW s cs cs.length else s

theorem load_pack {w W1 w2 w3 w4 w5 : World} {g : Nat} {F : Nat → Prop} {s s' : St} {A A' A2 : Option Addr} {nw cw n' c' n2 c2 : Nat} {fv : Value} {wp fp : List Pc} {seq : Int} {last : Bool} {bs : List UInt8} (h : SndAt w g F s (.slice A nw cw) fv wp fp)
    (h1 : Chg (fun k => k = g) w W1) (hs1 : W1.heap.size = w.heap.size) (h2 : OwnA w2 5 1 encB (.slice A2 n2 c2) bs) (hbs : bs.length ≤ 140737488355328) (hf : ∀ k, (Value.slice A2 n2 c2).ownBlock = some k → W1.heap.size ≤ k) (hb2 : Below W1.heap.size W1 w2) (h3 : Below w2.heap.size w2 w3)
    (hown : OwnA w4 57 3 Pc.cells (.slice A' n' c') (wp ++ [⟨seq, last, A2, n2, c2, bs⟩])) (h4 : Chg (fun k => (Value.slice A nw cw).ownBlock = some k) w3 w4)
    (hat : (Value.slice A' n' c').ownBlock = (Value.slice A nw cw).ownBlock ∨ (Value.slice A' n' c').ownBlock = some w3.heap.size) (hb4 : ∃ cs, Blk w4 g 96 cs) (h5 : Chg (fun k => k = g) w4 w5)
    (hwt : s' = { s with wt := s.wt ++ [(last, bs)] }) (hseq : seq = ((s.acked + s.fl.length + s.wt.length + 1 : Nat) : Int))
    (hb5 : Blk w5 g 96 (mkS (.slice A' n' c') fv ((s.acked + s.fl.length + s.wt.length + 1 : Nat) : Int) (s.acked : Int) s.waited s.patience)) : SndOp w g F s' w5 := by
  subst hwt
  obtain ⟨cs4, hb4⟩ := hb4
  have e2 := hb2.size
  have e3 := h3.size
  have e4 := h4.size
  have e5 := h5.size
  -- the old pieces of what waits
  have wo3 : PcOwn F w3 57 (.slice A nw cw) wp := ((h.wo.other h1 h.blk (by decide) (by decide)).ext hb2).ext h3
  have fo3 : PcOwn F w3 57 fv fp := ((h.fo.other h1 h.blk (by decide) (by decide)).ext hb2).ext h3
  have fo5 := (fo3.chgP wo3.own h4 (fun k hk he => h.sep k he hk) (by decide)).other h5 hb4 (by decide) (by decide)
  have key : ∀ p : Pc, p.Ok w3 → p.Ok w5 := fun p o => by
    have o2 : p.Ok w4 := ⟨o.1.chg h4 (fun i hi => o.1.apartA wo3.own (by decide) hi), o.2⟩
    exact ⟨o2.1.chg h5 (fun i hi hs => by subst hs; exact o2.1.apart hb4 (by decide) hi), o2.2⟩
  refine ⟨fun i => F i ∨ (w.heap.size ≤ i ∧ i < w5.heap.size), ⟨_, _, _, _, ⟨?_, .inl h.fg, fun i hi => ?_, ⟨hown.chg h5 (fun i hi hs => by subst hs; exact hown.apart hb4 (by decide) hi), fun i hi => ?_, fun p hp => ?_, fun p hp i hi => ?_⟩, fo5.mono (fun i hi => .inl hi), fun i hi he => ?_, ?_, h.fc⟩⟩, ?_, fun i hi => hi.imp id (fun h => h.1)⟩
  · refine cast (congrArg (Blk w5 g 96) ?_) hb5
    simp only [mkS]
    have e1 : ((s.acked + s.fl.length + s.wt.length + 1 : Nat) : Int) = ((s.acked + s.fl.length + (s.wt ++ [(last, bs)]).length : Nat) : Int) := by
      rw [List.length_append]; rfl
    rw [e1]
  · rcases hi with hi | hi
    · have := h.lt i hi; omega
    · exact hi.2
  · rcases hat with hat | hat
    · exact .inl (wo3.blk i (hat ▸ hi))
    · rw [hat] at hi; injection hi with hi
      have := hown.lt (g := i) (by rw [hat, hi])
      right; omega
  · rcases List.mem_append.1 hp with hp | hp
    · exact key p (wo3.ok p hp)
    · simp only [List.mem_singleton] at hp
      subst hp
      exact key _ ⟨h2.ext h3, hbs⟩
  · rcases List.mem_append.1 hp with hp | hp
    · exact .inl (wo3.fp p hp i hi)
    · simp only [List.mem_singleton] at hp
      subst hp
      have hi' := h2.blk hi
      have := hf i hi'
      have := h2.lt hi'
      right; omega
  · rcases hat with hat | hat
    · rw [hat] at hi; exact h.sep i hi he
    · rw [hat] at hi; injection hi with hi
      have := fo3.own.lt he
      omega
  · simp only [List.map_append, h.wc, numd_append]
    congr 1
    simp only [List.map_cons, List.map_nil, Pc.core, numd, hseq]
  · have a1 : Chg F w W1 := h1.mono (fun i _ hi => hi ▸ h.fg)
    have a2 : Chg F W1 w3 := (Chg.of_ext hb2).trans (T := fun _ => False) (Chg.of_ext h3) (fun _ _ h => h.elim)
    have a3 : Chg F w3 w4 := h4.mono (fun i _ hi => wo3.blk i hi)
    have a4 : Chg F w4 w5 := h5.mono (fun i _ hi => hi ▸ h.fg)
    exact ((a1.trans a2 (fun i _ h => h)).trans a3 (fun i _ h => h)).trans a4 (fun i _ h => h)
end Go.Proofs.Ytiljpbncfofnhaa.Send
