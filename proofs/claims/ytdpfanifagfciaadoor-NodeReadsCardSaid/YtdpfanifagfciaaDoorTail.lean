/- A drawn region whose operations read or call quietly, but for a store at its end that waits for all others: one walk. No program in sight. -/
import Derived.StillTail
import Derived.Deep.QuietTactic
import Derived.BigQuiet
namespace Go.Proofs.YtdpfanifagfciaaDoor
section
variable {P : Program} {md : Region.Mode} {C : World → Prop} {Q : Exit → Act → World → Prop}
/-- An operation that does nothing, in the last one's place. -/
def dum (o : Oper) : Oper := { dst := none, op := .move (.const (.bool true)), type := 0, pos := "", after := o.after, guard := none }
/-- All edges lead back. -/
def backB (ops : Array Oper) : Bool := (List.range ops.size).all fun i => match ops[i]? with | some o => o.after.all fun e => decide (e.on < i) | none => true

theorem get_swap {l0 : List Oper} {o : Oper} (j : Nat) : (l0 ++ [dum o]).toArray[j]? = if j = l0.length then some (dum o) else (l0 ++ [o]).toArray[j]? := by
  simp only [List.getElem?_toArray]
  split
  · rename_i h; subst h; simp
  · rename_i h
    rcases Nat.lt_or_ge j l0.length with h1 | h1
    · rw [List.getElem?_append_left h1, List.getElem?_append_left h1]
    · rw [List.getElem?_eq_none (by simp; omega), List.getElem?_eq_none (by simp; omega)]
theorem get_last {l0 : List Oper} {o : Oper} : (l0 ++ [o]).toArray[l0.length]? = some o := by simp
theorem ready_swap {l0 : List Oper} {o : Oper} {listed : Array Bool} {i : Nat} : i ∈ Region.ready md (l0 ++ [dum o]).toArray listed ↔ i ∈ Region.ready md (l0 ++ [o]).toArray listed := by
  rw [mem_ready, mem_ready]
  refine and_congr_right fun _ => ?_
  rw [get_swap]
  by_cases h : i = l0.length
  · subst h
    rw [if_pos rfl, get_last]
    constructor
    · rintro ⟨x, e, k⟩; cases e; exact ⟨_, rfl, k⟩
    · rintro ⟨x, e, k⟩; cases e; exact ⟨_, rfl, k⟩
  · rw [if_neg h]
/-- No operation's guard is number n. -/
def guardB (l0 : List Oper) : Bool := l0.all fun o => match o.guard with | some (j, _) => decide (j ≠ l0.length) | none => true
theorem wanted_swap {l0 : List Oper} {o x : Oper} (hx : match x.guard with | some (j, _) => j ≠ l0.length | none => True) (t : Array Value) :
    Region.wanted x (yielded (l0 ++ [dum o]).toArray t) = Region.wanted x (yielded (l0 ++ [o]).toArray t) := by
  unfold Region.wanted
  split
  · rfl
  · rename_i j want e
    rw [e] at hx
    have : yielded (l0 ++ [dum o]).toArray t j = yielded (l0 ++ [o]).toArray t j := by
      unfold yielded
      rw [get_swap, if_neg hx]
    rw [this]
theorem guardB_mem {l0 : List Oper} (h : guardB l0 = true) {x : Oper} (hx : x ∈ l0) : match x.guard with | some (j, _) => j ≠ l0.length | none => True := by
  have := List.all_eq_true.1 h x hx
  split
  · rename_i e; rw [e] at this; exact of_decide_eq_true this
  · trivial
/-- While the last has not come up, something may. -/
theorem not_stuck {ops : Array Oper} {n : Nat} {listed : Array Bool} (hb : backB ops = true) (hn : n < ops.size) (inv : HeadInv md ops n listed) : Region.ready md ops listed ≠ [] := by
  intro h0
  have key : ∀ j, j ≤ n → listed.getD j false = true := by
    intro j
    induction j using Nat.strongRecOn with
    | _ j ih =>
      intro hj
      cases hl : listed.getD j false with
      | true => rfl
      | false =>
        exfalso
        have hjs : j < ops.size := by omega
        have : j ∈ Region.ready md ops listed := by
          rw [mem_ready]
          refine ⟨getD_in (by rw [inv.size]; exact hjs) hl, ops[j], Array.getElem?_eq_getElem hjs, fun e he _ => ?_⟩
          have h1 := List.all_eq_true.1 hb j (List.mem_range.2 hjs)
          rw [Array.getElem?_eq_getElem hjs] at h1
          have h2 := Array.all_eq_true'.1 h1 e he
          have h3 : e.on < j := of_decide_eq_true h2
          exact ih e.on h3 (by omega)
        rw [h0] at this
        cases this
  have h1 := key n (Nat.le_refl _)
  rw [getD_both (inv.tail n (Nat.le_refl _) hn)] at h1
  cases h1

theorem any_last {l0 : List Oper} {o : Oper} {Qa : Act → Prop} (hs : Region.sinkB md (l0 ++ [o]).toArray l0.length = true) (hb : backB (l0 ++ [o]).toArray = true) (hg : o.guard = none) (hd : guardB l0 = true)
    (hL : ∀ a w, C w → Qa a → o.wp P a w (fun a' w' => Q .normal a' w') Q ∨ (o.asks P a w ∧ LetsOut Q)) : ∀ (fuel : Nat) (listed : Array Bool) (a : Act) (w : World),
    HeadInv md (l0 ++ [o]).toArray l0.length listed → C w → wpAnyQ P md (l0 ++ [dum o]).toArray C Qa fuel listed a → wpAny P md (l0 ++ [o]).toArray Q fuel listed a w := by
  have hn : l0.length < (l0 ++ [o]).toArray.size := by simp
  have hc : Region.chainB md (l0 ++ [o]).toArray l0.length = true := by
    refine List.all_eq_true.2 fun t ht => ?_
    have : t < (l0 ++ [o]).toArray.size := List.mem_range.1 ht
    simp at this
    simp; exact .inl (by omega)
  intro fuel
  induction fuel with
  | zero =>
    intro listed a w inv _ h
    refine absurd ?_ (not_stuck hb hn inv)
    refine List.eq_nil_iff_forall_not_mem.2 fun i hi => ?_
    have := ready_swap.2 hi
    rw [h.1] at this; cases this
  | succ fuel ih =>
    intro listed a w inv hw h
    refine ⟨fun h0 => absurd h0 (not_stuck hb hn inv), fun i hi => ?_⟩
    have h1 := h.2 i (ready_swap.2 hi)
    have hil : i ≤ l0.length := by
      obtain ⟨_, oi, hoi, _⟩ := mem_ready.1 hi
      have := (Array.getElem?_eq_some_iff.1 hoi).1
      simp at this; omega
    by_cases e : i = l0.length
    · subst e
      have all : ∀ j, j < l0.length → listed.getD j true = true := fun j hj => by
        cases hl : listed.getD j true with
        | true => rfl
        | false => exact absurd hi (tail_waits hs hc hn inv _ j rfl hj hl _ (Nat.le_refl _))
      have none_left : Region.ready md (l0 ++ [o]).toArray (listed.setIfInBounds l0.length true) = [] := by
        refine List.eq_nil_iff_forall_not_mem.2 fun j hj => ?_
        obtain ⟨h2, oj, hoj, _⟩ := mem_ready.1 hj
        have hjl := (Array.getElem?_eq_some_iff.1 hoj).1
        simp at hjl
        by_cases ej : j = l0.length
        · subst ej
          have : (listed.setIfInBounds l0.length true).getD l0.length false = true := by
            have hsz : l0.length < listed.size := by rw [inv.size]; exact hn
            simp [hsz]
          rw [getD_both h2] at this; cases this
        · rw [getD_set_ne true (by omega)] at h2
          rw [all j (by omega)] at h2; cases h2
      unfold qOp at h1
      rw [get_swap, if_pos rfl] at h1
      simp only [Region.wanted, dum, if_true] at h1
      obtain ⟨v, _, h3⟩ := h1
      have hQ : Qa (a.put none v) := by
        cases fuel with
        | zero => exact h3.2
        | succ f => exact h3.1 (List.eq_nil_iff_forall_not_mem.2 fun j hj => by have := ready_swap.1 hj; rw [none_left] at this; cases this)
      unfold wpOp
      rw [get_last]
      simp only [Region.wanted, hg, if_true]
      rcases hL a w hw hQ with h5 | h5
      rotate_left
      · exact .inr h5
      refine .inl (Oper.wp_mono (fun a' w' hq => ?_) h5)
      cases fuel with
      | zero => exact ⟨none_left, hq⟩
      | succ f => exact ⟨fun _ => hq, fun j hj => by rw [none_left] at hj; cases hj⟩
    · have h2 : qOp P (l0 ++ [o]).toArray C i (wpAnyQ P md (l0 ++ [dum o]).toArray C Qa fuel (listed.setIfInBounds i true)) a := by
        unfold qOp at h1 ⊢
        rw [get_swap, if_neg e] at h1
        have hget : (l0 ++ [o]).toArray[i]? = some (l0[i]'(by omega)) := by
          rw [List.getElem?_toArray, List.getElem?_append_left (by omega), List.getElem?_eq_getElem]
        rw [hget] at h1 ⊢
        simp only [] at h1 ⊢
        rw [← wanted_swap (o := o) (guardB_mem hd (List.getElem_mem (by omega)))]; exact h1
      exact wpOp_of_qOp hw (fun a' w' hw' hk => ih _ a' w' (inv.set hi (by omega)) hw' hk) h2

theorem wpQuiet_app {ops : Array Oper} {Qa : Act → Prop} {o : Oper} : ∀ (l : List Oper) (a : Act), wpQuiet P ops C Qa l a → wpQuiet P ops C Qa (l ++ [dum o]) a
  | [], a, h => by
    show if Region.wanted (dum o) (yielded ops a.tmps) then (dum o).quiet P a C Qa else Qa (a.put (dum o).dst undef)
    rw [if_pos (show Region.wanted (dum o) _ = true from rfl)]
    exact ⟨.bool true, fun w _ => ⟨rfl, rfl⟩, h⟩
  | x :: l, a, h => by
    show if Region.wanted x (yielded ops a.tmps) then x.quiet P a C (wpQuiet P ops C Qa (l ++ [dum o])) else wpQuiet P ops C Qa (l ++ [dum o]) (a.put x.dst undef)
    have h' : if Region.wanted x (yielded ops a.tmps) then x.quiet P a C (wpQuiet P ops C Qa l) else wpQuiet P ops C Qa l (a.put x.dst undef) := h
    split at h'
    · rename_i hw; rw [if_pos hw]; exact Oper.quiet_mono (fun a' => wpQuiet_app l a') h'
    · rename_i hw; rw [if_neg hw]; exact wpQuiet_app l _ h'
theorem wpQuiet_ops {ops ops' : Array Oper} {Qa : Act → Prop} : ∀ (l : List Oper), (∀ x ∈ l, ∀ t, Region.wanted x (yielded ops t) = Region.wanted x (yielded ops' t)) → ∀ (a : Act), wpQuiet P ops C Qa l a → wpQuiet P ops' C Qa l a
  | [], _, a, h => h
  | x :: l, hy, a, h => by
    have h' : if Region.wanted x (yielded ops a.tmps) then x.quiet P a C (wpQuiet P ops C Qa l) else wpQuiet P ops C Qa l (a.put x.dst undef) := h
    show if Region.wanted x (yielded ops' a.tmps) then x.quiet P a C (wpQuiet P ops' C Qa l) else wpQuiet P ops' C Qa l (a.put x.dst undef)
    have hy' := fun y (hm : y ∈ l) => hy y (List.mem_cons_of_mem _ hm)
    rw [← hy x List.mem_cons_self]
    split at h'
    · rename_i hw; rw [if_pos hw]; exact Oper.quiet_mono (fun a' => wpQuiet_ops l hy' a') h'
    · rename_i hw; rw [if_neg hw]; exact wpQuiet_ops l hy' _ h'

/-- The region: its operations but the last in the order of the text, in worlds that have drawn; then the last one. -/
theorem wp_region_tail {id : Nat} {a : Act} {w : World} {l : List Oper} (l0 : List Oper) (o : Oper) (hl : l = l0 ++ [o]) (hm : P.follows .mixedOrders = true) (hB : Region.lexB .any (l0 ++ [dum o]).toArray = true)
    (hs : Region.sinkB .any (l0 ++ [o]).toArray l0.length = true) (hb : backB (l0 ++ [o]).toArray = true) (hg : o.guard = none) (hd : guardB l0 = true)
    (h : wpQuiet P l.toArray (fun w' => ∃ n, w' = w.drewN n) (fun a' => ∀ w', (∃ n, w' = w.drewN n) → wpList P l.toArray Q [o] a' w') l0 a) : (Code.region id l.toArray true).wp P Q a w := by
  subst hl
  simp only [Region.lexB, Bool.and_eq_true] at hB
  refine wp_region_any hm ?_
  have h1 : wpQuiet P (l0 ++ [dum o]).toArray (fun w' => ∃ n, w' = w.drewN n) (fun a' => ∀ w', (∃ n, w' = w.drewN n) → wpList P (l0 ++ [o]).toArray Q [o] a' w') (l0 ++ [dum o]) a :=
    wpQuiet_app l0 a (wpQuiet_ops l0 (fun x hx t => (wanted_swap (guardB_mem hd hx) t).symm) a h)
  have h2 := wpAnyQ_lex (md := .any) hB.1 (l0 ++ [dum o]) 0 (Array.replicate (l0 ++ [o]).toArray.size false) a (by simp) (by simpa using hB.2) h1
  have h3 := any_last (md := .any) (P := P) (Q := Q) (C := fun w' => ∃ n, w' = w.drewN n) hs hb hg hd (fun a' w' hw hq => by
      have := hq w' hw
      have h4 : if Region.wanted o (yielded (l0 ++ [o]).toArray a'.tmps) then o.wp P a' w' (wpList P (l0 ++ [o]).toArray Q []) Q ∨ (o.asks P a' w' ∧ LetsOut Q) else wpList P (l0 ++ [o]).toArray Q [] (a'.put o.dst undef) w' := this
      rw [if_pos (by simp [Region.wanted, hg])] at h4
      exact h4) _ _ a (w.drewN 1) ⟨by simp, fun j oj _ hl => (by rw [getD_replicate_false] at hl; cases hl), fun t _ ht => getD_in (by simpa using ht) (getD_replicate_false _ _)⟩ ⟨1, rfl⟩ h2
  have h5 : wpAny P .any (l0 ++ [o]).toArray Q (l0 ++ [o]).toArray.size (Array.replicate (l0 ++ [o]).toArray.size false) a (w.drewN 1) := by
    have h6 := h3
    rwa [show (l0 ++ [dum o]).length = (l0 ++ [o]).toArray.size from by simp] at h6
  exact h5
end
end Go.Proofs.YtdpfanifagfciaaDoor
