/- A drawn region each of whose operations yields one value, whatever the order: from worlds of one kind to worlds of that kind (a call that makes memory alone does so); the last operation, which waits for all others, may do anything. One way in the place of all orders. -/
import Derived.Deep.RegionHeld
namespace Go.Proofs.Ytiljpbncfofnhaa.Uni
set_option linter.unusedVariables false
set_option linter.unusedSimpArgs false
variable {P : Program} {ops : Array Oper} {Q : Exit → Act → World → Prop} {md : Region.Mode} {S : World → Prop}

/-- what runs leaves v, from a world that meets S in one that meets S -/
def Runs (P : Program) (S : World → Prop) (x : Sem Next) (v : Value) : Prop :=
  (∀ w, S w → x.run P w = .ok (.value v) w) ∨ (∀ w, S w → ∃ f args, x.run P w = .ok (.enter f args) w ∧ Calls P f args w fun e w' => e = .returned v ∧ S w')
def Uni (P : Program) (ops : Array Oper) (S : World → Prop) (o : Oper) (v : Value) (a : Act) : Prop :=
  (Region.wanted o (yielded ops a.tmps) = true ∧ Runs P S (execOp a.eval o) v) ∨ (Region.wanted o (yielded ops a.tmps) = false ∧ v = undef)
theorem Uni.of_same {o : Oper} {v : Value} {a a' : Act} (hy : Uni P ops S o v a) (he : execOp a'.eval o = execOp a.eval o) (hw : Region.wanted o (yielded ops a'.tmps) = Region.wanted o (yielded ops a.tmps)) : Uni P ops S o v a' := by
  unfold Uni at *
  rw [he, hw]
  exact hy
theorem Uni.wpOp {i : Nat} {o : Oper} {v : Value} {a : Act} (hi : ops[i]? = some o) (hy : Uni P ops S o v a) {K : Act → World → Prop} {w : World} (hS : S w) (h : ∀ w', S w' → K (a.put o.dst v) w') : wpOp P ops Q i K a w := by
  unfold Go.wpOp
  simp only [hi]
  rcases hy with ⟨hw, hv | hv⟩ | ⟨hw, rfl⟩
  · simp only [hw, if_true, Oper.wp, hv w hS, Oper.upon]; exact .inl (h _ hS)
  · obtain ⟨f, args, hr, hc⟩ := hv w hS
    simp only [hw, if_true, Oper.wp, hr, Oper.upon]
    refine .inl (Calls.mono hc ?_)
    rintro e w' ⟨rfl, hS'⟩
    exact h _ hS'
  · simp only [hw, Bool.false_eq_true, if_false]; exact h _ hS

/-- what has come up has those behind it that it waits for -/
def Closed (md : Region.Mode) (ops : Array Oper) (listed : Array Bool) : Prop :=
  ∀ k o, ops[k]? = some o → listed.getD k false = true → ∀ e ∈ o.after, Region.binds md e = true → listed.getD e.on false = true
theorem closed_start (n : Nat) : Closed md ops (Array.replicate n false) := fun k o _ h => by
  exfalso
  rw [Array.getD_eq_getD_getElem?, Array.getElem?_replicate] at h
  split at h <;> simp at h
theorem Closed.next {listed : Array Bool} {i : Nat} (h : Closed md ops listed) (hr : i ∈ Region.ready md ops listed) : Closed md ops (listed.setIfInBounds i true) := by
  intro k o ho hk e he hb
  by_cases hik : i = k
  · subst hik
    obtain ⟨_, o', ho', hall⟩ := mem_ready.1 hr
    rw [ho] at ho'
    injection ho' with ho'
    subst ho'
    exact getD_set_true (hall e he hb)
  · rw [getD_set_ne false hik] at hk
    exact getD_set_true (h k o ho hk e he hb)
/-- does all else come ahead of number 'last'? -/
def fedB (md : Region.Mode) (ops : Array Oper) (last : Nat) : Bool :=
  decide (ops.size ≤ last) || (decide (ops.size = last + 1) && (List.range last).all fun k => (List.range ops.size).any fun p => decide (k < p) && match ops[p]? with
    | some o => o.after.any (fun e => Region.binds md e && e.on == k)
    | none => false)
theorem fed_all {last : Nat} (hf : fedB md ops last = true) {listed : Array Bool} (hc : Closed md ops listed) (hr : last ∈ Region.ready md ops listed) : ∀ m k, k + m = last → 0 < m → listed.getD k false = true := by
  obtain ⟨_, ol, hol, hall⟩ := mem_ready.1 hr
  have hlt : last < ops.size := (Array.getElem?_eq_some_iff.1 hol).1
  unfold fedB at hf
  rw [Bool.or_eq_true] at hf
  rcases hf with hf | hf
  · simp at hf; omega
  · simp only [Bool.and_eq_true, decide_eq_true_eq, List.all_eq_true, List.mem_range, List.any_eq_true] at hf
    obtain ⟨hsz, hf⟩ := hf
    intro m
    induction m using Nat.strongRecOn with
    | _ m ih =>
      intro k hk hm
      obtain ⟨p, hp, hkp, ho⟩ := hf k (by omega)
      cases hop : ops[p]? with
      | none => rw [hop] at ho; simp at ho
      | some o =>
        rw [hop] at ho
        simp only at ho
        obtain ⟨e, he, hb⟩ := Array.any_eq_true'.1 ho
        simp only [Bool.and_eq_true, beq_iff_eq] at hb
        by_cases hpl : p = last
        · subst hpl
          rw [hol] at hop
          injection hop with hop
          subst hop
          have := hall e he hb.1
          rwa [hb.2] at this
        · have := hc p o hop (ih (last - p) (by omega) p (by omega) (by omega)) e he hb.1
          rwa [hb.2] at this

/-- Whatever comes up: it is of one value, or it is the last. -/
def wpAnyU (P : Program) (md : Region.Mode) (ops : Array Oper) (Q : Exit → Act → World → Prop) (S : World → Prop) (last : Nat) : Nat → Array Bool → Act → Prop
  | 0, listed, a => Region.ready md ops listed = [] ∧ ∀ w, S w → Q .normal a w
  | fuel + 1, listed, a =>
    (Region.ready md ops listed = [] → ∀ w, S w → Q .normal a w) ∧
    ∀ i ∈ Region.ready md ops listed, (∃ o v, ops[i]? = some o ∧ Uni P ops S o v a ∧ wpAnyU P md ops Q S last fuel (listed.setIfInBounds i true) (a.put o.dst v)) ∨
      (i = last ∧ Region.ready md ops (listed.setIfInBounds i true) = [] ∧ ∀ w, S w → wpOp P ops Q i (Q .normal) a w)
theorem wpAny_done' {listed : Array Bool} {a : Act} {w : World} (hr : Region.ready md ops listed = []) (h : Q .normal a w) : ∀ fuel, wpAny P md ops Q fuel listed a w
  | 0 => ⟨hr, h⟩
  | _ + 1 => ⟨fun _ => h, by rw [hr]; simp⟩
theorem wpAny_of_u {last : Nat} : ∀ (fuel : Nat) (listed : Array Bool) (a : Act), wpAnyU P md ops Q S last fuel listed a → ∀ w, S w → wpAny P md ops Q fuel listed a w
  | 0, _, _, h, w, hS => ⟨h.1, h.2 w hS⟩
  | fuel + 1, listed, a, h, w, hS => ⟨fun hr => h.1 hr w hS, fun i hi => by
      rcases h.2 i hi with ⟨o, v, ho, hu, hn⟩ | ⟨rfl, hr, hl⟩
      · exact hu.wpOp ho hS fun w' hS' => wpAny_of_u fuel _ _ hn w' hS'
      · exact wpOp_mono (fun a' w' hq => wpAny_done' hr hq fuel) (hl w hS)⟩

theorem wpAnyU_first {last : Nat} (hfed : fedB md ops last = true) {i : Nat} {oi : Oper} {v : Value} (hi : ops[i]? = some oi) (hil : i ≠ last) (hsel : ∀ (j : Nat) (o : Oper) cs b, ops[j]? = some o → o.op ≠ .select cs b) :
    ∀ (fuel : Nat) (listed : Array Bool) (a : Act),
      (∀ j oj, ops[j]? = some oj → j ≠ i → listed.getD j true = false → (∀ e ∈ oj.after, Region.binds md e = true → e.on ≠ i) → oi.apart ops oj = true) →
      Closed md ops listed → i ∈ Region.ready md ops listed → Uni P ops S oi v a →
      wpAnyU P md ops Q S last fuel (listed.setIfInBounds i true) (a.put oi.dst v) → wpAnyU P md ops Q S last (fuel + 1) listed a := by
  intro fuel
  induction fuel with
  | zero =>
    intro listed a _ _ hr hy H
    refine ⟨fun h => (by rw [h] at hr; cases hr), fun j hj => ?_⟩
    by_cases hji : j = i
    · subst hji; exact .inl ⟨oi, v, hi, hy, H⟩
    · have := ready_mono hj hji
      rw [H.1] at this
      cases this
  | succ fuel ih =>
    intro listed a hfree hcl hr hy H
    refine ⟨fun h => (by rw [h] at hr; cases hr), fun j hj => ?_⟩
    by_cases hji : j = i
    · subst hji; exact .inl ⟨oi, v, hi, hy, H⟩
    · obtain ⟨hjun, oj, hoj, hall⟩ := mem_ready.1 hj
      have hnot : ∀ e ∈ oj.after, Region.binds md e = true → e.on ≠ i := fun e he hb heq => by
        have h1 := hall e he hb
        have h0 := (mem_ready.1 hr).1
        rw [heq] at h1
        rcases Nat.lt_or_ge i listed.size with h' | h'
        · simp [h'] at h0 h1; rw [h0] at h1; cases h1
        · simp [Array.getElem?_eq_none h'] at h1
      rcases H.2 j (ready_mono hj hji) with ⟨o, u, ho, hu, hn⟩ | ⟨hjl, _, _⟩
      · rw [hoj] at ho
        injection ho with ho
        subst ho
        obtain ⟨h1, h2, h3⟩ := Oper.apart_spec (hfree j oj hoj hji hjun hnot)
        have hfree' : ∀ k ok, ops[k]? = some ok → k ≠ i → (listed.setIfInBounds j true).getD k true = false →
            (∀ e ∈ ok.after, Region.binds md e = true → e.on ≠ i) → oi.apart ops ok = true := fun k ok hk hki hun hno => by
          refine hfree k ok hk hki ?_ hno
          by_cases hjk : j = k
          · subst hjk; exact hjun
          · rw [getD_set_ne true hjk] at hun; exact hun
        refine .inl ⟨oj, u, hoj, hu.of_same (execOp_put oj (fun cs b => hsel j oj cs b hoj) a oi.dst v h1).symm (wanted_put oj a oi.dst v h1).symm, ?_⟩
        refine ih (listed.setIfInBounds j true) (a.put oj.dst u) hfree' (hcl.next hj) (ready_mono hr (Ne.symm hji))
          (hy.of_same (execOp_put oi (fun cs b => hsel i oi cs b hi) a oj.dst u h3) (wanted_put oi a oj.dst u h3)) ?_
        rw [Array.setIfInBounds_comm _ _ hji, ← Act.put_comm a v u h2]
        exact hn
      · exfalso
        subst hjl
        have hii := (mem_ready.1 hr).1
        have hlt : i < ops.size := (Array.getElem?_eq_some_iff.1 hi).1
        have hjs : j < ops.size := (Array.getElem?_eq_some_iff.1 hoj).1
        have hij : i < j := by
          have hf := hfed
          unfold fedB at hf
          rw [Bool.or_eq_true] at hf
          rcases hf with hf | hf
          · simp at hf; omega
          · simp only [Bool.and_eq_true, decide_eq_true_eq] at hf; omega
        have := fed_all hfed hcl hj (j - i) i (by omega) (by omega)
        rcases Nat.lt_or_ge i listed.size with h' | h'
        · simp [h'] at hii this; rw [hii] at this; cases this
        · simp [Array.getElem?_eq_none h'] at this

/-! The moves -/
/-- what is to be shown, once some have come up -/
def WU (P : Program) (md : Region.Mode) (ops : Array Oper) (Q : Exit → Act → World → Prop) (S : World → Prop) (last fuel : Nat) (listed : Array Bool) (a : Act) : Prop := Closed md ops listed → wpAnyU P md ops Q S last fuel listed a
theorem WU.take {last i : Nat} {oi : Oper} {v : Value} {fuel : Nat} {listed : Array Bool} {a : Act} (hi : ops[i]? = some oi) (hs : Region.noSelect ops = true) (hfed : fedB md ops last = true) (hil : decide (i ≠ last) = true)
    (hf : Region.free md ops listed i = true) (hr : (Region.ready md ops listed).contains i = true) (hy : Uni P ops S oi v a) (h : WU P md ops Q S last fuel (listed.setIfInBounds i true) (a.put oi.dst v)) : WU P md ops Q S last (fuel + 1) listed a := fun hc =>
  wpAnyU_first hfed hi (of_decide_eq_true hil) (Region.noSelect_spec hs) fuel listed a (Region.free_spec hi hf) hc (by simpa using hr) hy (h (hc.next (by simpa using hr)))
theorem WU.done {last : Nat} {listed : Array Bool} {a : Act} (hr : Region.ready md ops listed = []) (h : ∀ w, S w → Q .normal a w) : ∀ fuel, WU P md ops Q S last fuel listed a
  | 0 => fun _ => ⟨hr, h⟩
  | _ + 1 => fun _ => ⟨fun _ => h, by rw [hr]; simp⟩
theorem WU.last {last fuel : Nat} {o : Oper} {listed : Array Bool} {a : Act} (hi : ops[last]? = some o) (hg : o.guard = none) (hr : Region.ready md ops listed = [last]) (hr2 : Region.ready md ops (listed.setIfInBounds last true) = [])
    (h : ∀ w, S w → o.wp P a w (Q .normal) Q) : WU P md ops Q S last (fuel + 1) listed a := fun _ =>
  ⟨fun h0 => (by rw [hr] at h0; cases h0), fun i hi' => by
    rw [hr, List.mem_singleton] at hi'
    subst hi'
    refine .inr ⟨rfl, hr2, fun w hS => ?_⟩
    unfold wpOp
    simp only [hi]
    have hw : Region.wanted o (yielded ops a.tmps) = true := by simp [Region.wanted, hg]
    rw [if_pos hw]
    exact .inl (h w hS)⟩
theorem region {id last : Nat} {a : Act} {w : World} (hm : P.follows .mixedOrders = true) (hS : S w.drew) (h : WU P .any ops Q S last ops.size (Array.replicate ops.size false) a) : (Code.region id ops true).wp P Q a w :=
  wp_region_any hm (wpAny_of_u _ _ _ (h (closed_start _)) _ hS)
theorem Uni.run {o : Oper} {v : Value} {a : Act} (hw : Region.wanted o (yielded ops a.tmps) = true) (h : ∀ w, S w → (execOp a.eval o).run P w = .ok (.value v) w) : Uni P ops S o v a := .inl ⟨hw, .inl h⟩
theorem Uni.skip {o : Oper} {a : Act} (hw : Region.wanted o (yielded ops a.tmps) = false) : Uni P ops S o undef a := .inr ⟨hw, rfl⟩
theorem Uni.call {o : Oper} {v : Value} {a : Act} {f : FuncId} {args : Array Value} (hw : Region.wanted o (yielded ops a.tmps) = true) (hr : ∀ w, S w → (execOp a.eval o).run P w = .ok (.enter f args) w) (h : ∀ w, S w → Calls P f args w fun e w' => e = .returned v ∧ S w') : Uni P ops S o v a :=
  .inl ⟨hw, .inr fun w hS => ⟨f, args, hr w hS, h w hS⟩⟩
end Go.Proofs.Ytiljpbncfofnhaa.Uni
