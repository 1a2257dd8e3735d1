/- A drawn region in which some operations spend what others gave (append onto a row of the call's own): as XDraw's law, but what an operation spends no other one needs that may come behind it. No program in sight. -/
import Derived.Test.YtdpfanifagfciaaDoorDraw
namespace Go.Proofs.YtdpfanifagfciaaDoor
open Go.RowKit
section
variable {P : Program} {ops : Array Oper} {Q : Exit → Act → World → Prop}
/-- What an operation spends it needs itself, and who needs it, too, goes ahead of it. -/
def spendOk (n : Nat) (need kill : List (List Nat)) : Bool :=
  (List.range n).all fun i => (kill.getD i []).all fun j => (List.range n).all fun q => !(need.getD q []).contains j || (q == i || (need.getD i []).contains q)
theorem spendOk_at {n : Nat} {need kill : List (List Nat)} (h : spendOk n need kill = true) {i j q : Nat} (hi : i < n) (hq : q < n) (hj : j ∈ kill.getD i []) (hn : j ∈ need.getD q []) : q = i ∨ q ∈ need.getD i [] := by
  unfold spendOk at h
  rw [List.all_eq_true] at h
  have h1 := h i (List.mem_range.2 hi)
  rw [List.all_eq_true] at h1
  have h2 := h1 j hj
  rw [List.all_eq_true] at h2
  have h3 := h2 q (List.mem_range.2 hq)
  simp only [Bool.or_eq_true, Bool.not_eq_true', beq_iff_eq] at h3
  rcases h3 with h3 | h3 | h3
  · exfalso
    have := List.contains_iff_mem.2 hn
    rw [h3] at this; cases this
  · exact .inl h3
  · exact .inr (List.contains_iff_mem.1 h3)
/-- The act and the world while some operations are listed. -/
def Lined (n : Nat) (L : List Nat) (need kill : List (List Nat)) (G : Nat → Value → World → Prop) (a0 : Act) (w0 : World) (listed : Array Bool) (a : Act) (w : World) : Prop :=
  listed.size = n ∧ Keeps w0 w ∧ a.defers = a0.defers ∧ a.tmps.size = a0.tmps.size ∧ (∀ i, i < n → listed.getD i false = true → ∀ j, j ∈ need.getD i [] → listed.getD j false = true) ∧ ∃ vs : Nat → Value,
    (∀ i, i < n → listed.getD i false = true → a.tmps[L.getD i 0]? = some (vs i) ∧ ((∀ q, q < n → listed.getD q false = true → i ∉ kill.getD q []) → G i (vs i) w)) ∧
    ∀ k, (∀ i, i < n → listed.getD i false = true → L.getD i 0 ≠ k) → a.tmps[k]? = a0.tmps[k]?
theorem wpAny_line {L : List Nat} {need kill : List (List Nat)} {G : Nat → Value → World → Prop} {a0 : Act} {w0 : World} (hL : ops.toList.map (·.dst) = L.map some) (hnd : L.Nodup) (hsz : ∀ d ∈ L, d < a0.tmps.size)
    (hneed : needOk ops need = true) (hkill : spendOk ops.size need kill = true) (hguard : ∀ i o, ops[i]? = some o → GuardAt need G i o)
    (hstep : ∀ i o, ops[i]? = some o → ∀ (a : Act) (w : World) (vs : Nat → Value), Keeps w0 w → (∀ k, L.contains k = false → a.tmps[k]? = a0.tmps[k]?) → (∀ j, j ∈ need.getD i [] → a.tmps[L.getD j 0]? = some (vs j) ∧ G j (vs j) w) →
      ∀ K : Act → World → Prop, (∀ v w', Keeps w0 w' → (∀ j u, (kill.getD i []).contains j = false → j ≠ i → (need.getD j []).contains i = false → ((need.getD j []).all fun m => !(need.getD m []).contains i) = true → G j u w → G j u w') → G i v w' → K (a.put o.dst v) w') → Oper.wp P o a w K Q)
    (h : ∀ (vs : Nat → Value) (w : World), Keeps w0 w → (∀ i, i < L.length → (∀ q, q < L.length → i ∉ kill.getD q []) → G i (vs i) w) → Q .normal { tmps := setAll vs L 0 a0.tmps, defers := a0.defers } w) :
    ∀ (fuel : Nat) (listed : Array Bool) (a : Act) (w : World), (listed.toList.filter (!·)).length ≤ fuel → Lined L.length L need kill G a0 w0 listed a w → wpAny P .any ops Q fuel listed a w := by
  have hLn : L.length = ops.size := by have := congrArg List.length hL; simpa using this.symm
  have hdst : ∀ {i : Nat} {o : Oper}, ops[i]? = some o → o.dst = some (L.getD i 0) ∧ i < L.length := fun {i o} ho => by
    have hi := (Array.getElem?_eq_some_iff.1 ho).1
    have h1 : (ops.toList.map (·.dst))[i]? = some o.dst := by rw [List.getElem?_map, Array.getElem?_toList, ho]; rfl
    rw [hL, List.getElem?_map] at h1
    have hi' : i < L.length := by omega
    rw [List.getElem?_eq_getElem hi'] at h1
    refine ⟨?_, hi'⟩
    rw [List.getD_eq_getElem?_getD, List.getElem?_eq_getElem hi']
    simpa using h1.symm
  have fin : ∀ (listed : Array Bool) (a : Act) (w : World), Lined L.length L need kill G a0 w0 listed a w → (∀ i, i < L.length → listed.getD i false = true) → Q .normal a w := by
    rintro listed a w ⟨_, hk, hdf, hs, _, vs, h1, h2⟩ hall
    have e : a = { tmps := setAll vs L 0 a0.tmps, defers := a0.defers } := by
      obtain ⟨t, df⟩ := a
      dsimp only at hdf hs h1 h2
      subst hdf
      congr 1
      apply Array.ext_getElem?
      intro k
      by_cases hk : k ∈ L
      · obtain ⟨q, hq, rfl⟩ := List.getElem_of_mem hk
        have e2 : L[q] = L.getD q 0 := by rw [List.getD_eq_getElem?_getD, List.getElem?_eq_getElem hq]; rfl
        rw [e2, setAll_in vs L 0 a0.tmps hnd hsz q hq, Nat.zero_add]
        exact (h1 q hq (hall q hq)).1
      · rw [setAll_out vs L 0 _ k hk]
        exact h2 k fun i hi _ e => hk (e ▸ getD_of_lt hi)
    rw [e]
    exact h vs w hk fun i hi hq => (h1 i hi (hall i hi)).2 fun q hq2 _ => hq q hq2
  intro fuel
  induction fuel with
  | zero =>
    intro listed a w hc hD
    have hall : ∀ i, i < L.length → listed.getD i false = true := fun i hi => by
      have hn : listed.toList.filter (!·) = [] := List.length_eq_zero_iff.1 (by omega)
      rw [List.filter_eq_nil_iff] at hn
      have hi' : i < listed.size := by rw [hD.1]; exact hi
      have := hn listed[i] (Array.getElem_mem_toList hi')
      rw [Array.getD_eq_getD_getElem?, Array.getElem?_eq_getElem hi']; simpa using this
    refine ⟨?_, fin listed a w hD hall⟩
    rw [List.eq_nil_iff_forall_not_mem]
    intro i hi
    rw [mem_ready] at hi
    obtain ⟨h0, o, ho, _⟩ := hi
    have h1 := hall i (hdst ho).2
    rw [Array.getD_eq_getD_getElem?] at h0 h1
    cases hx : listed[i]? with
    | none => rw [hx] at h0; cases h0
    | some b => rw [hx] at h0 h1; simp at h0 h1; rw [h0] at h1; cases h1
  | succ fuel ih =>
    intro listed a w hc hD
    constructor
    · intro hr
      refine fin listed a w hD ?_
      intro i
      induction i using Nat.strongRecOn with
      | _ i hi =>
        intro hiL
        cases hx : listed.getD i false with
        | true => rfl
        | false =>
          exfalso
          have his : i < ops.size := by omega
          have ho : ops[i]? = some ops[i] := Array.getElem?_eq_getElem his
          have hx' : listed.getD i true = false := by
            have : i < listed.size := by rw [hD.1]; exact hiL
            rw [Array.getD_eq_getD_getElem?, Array.getElem?_eq_getElem this] at hx ⊢
            simpa using hx
          have hm : i ∈ Region.ready .any ops listed := mem_ready.2 ⟨hx', _, ho, fun e he hbe => by
            have := needOk_back hneed ho e he hbe
            exact hi e.on this (by omega)⟩
          rw [hr] at hm; cases hm
    · intro i hi
      obtain ⟨h0, o, ho, hall⟩ := mem_ready.1 hi
      obtain ⟨hd, hiL⟩ := hdst ho
      refine wpOp_step ho fun K' hK => ?_
      obtain ⟨hls, hk, hdf, hs, hnd2, vs, h1, h2⟩ := hD
      have hli : listed.getD i false = false := by
        have hi' : i < listed.size := by omega
        rw [Array.getD_eq_getD_getElem?, Array.getElem?_eq_getElem hi'] at h0 ⊢
        simpa using h0
      have live : ∀ q j, q < L.length → listed.getD q false = true → j ∈ need.getD i [] → j ∉ kill.getD q [] := fun q j hq hlq hj hjk => by
        rcases spendOk_at hkill (by omega) (by omega) hjk hj with e | e
        · subst e; rw [hli] at hlq; cases hlq
        · have := hnd2 q hq hlq i e
          rw [hli] at this; cases this
      have hw : Region.wanted o (yielded ops a.tmps) = true := by
        unfold Region.wanted
        cases hgd : o.guard with
        | none => rfl
        | some gb =>
          obtain ⟨g, b⟩ := gb
          obtain ⟨hgn, hgv⟩ := hguard i o ho g b hgd
          obtain ⟨hjs, e, he, hb, hej⟩ := needOk_edge hneed ho hgn
          obtain ⟨h3, h40⟩ := h1 g (by omega) (by have := hall e he hb; rw [hej] at this; exact this)
          have h4 := h40 fun q hq hlq => live q g hq hlq hgn
          have h5 := hgv _ _ h4
          rw [h5] at h3
          have h6 : ops[g]? = some ops[g] := Array.getElem?_eq_getElem hjs
          have h7 := (hdst h6).1
          have h8 : yielded ops a.tmps g = some b := by
            unfold yielded
            rw [h6]
            simp only [Option.bind_some, h7]
            rw [h3]
          dsimp only
          rw [h8]
          simp
      rw [if_pos hw]
      refine hstep i o ho a w vs hk (fun k hkL => h2 k fun q hq _ e => ?_) (fun j hj => ?_) K' fun v w' hkw hst hGi => hK _ _ ?_
      · have : L.contains k = true := by rw [List.contains_iff_mem, ← e]; exact getD_of_lt hq
        rw [hkL] at this; cases this
      · obtain ⟨hjs, e, he, hb, hej⟩ := needOk_edge hneed ho hj
        have h5 := h1 j (by omega) (by have := hall e he hb; rw [hej] at this; exact this)
        exact ⟨h5.1, h5.2 fun q hq hlq => live q j hq hlq hj⟩
      · refine ih _ _ _ (by have := count_set h0; omega) ⟨by simpa using hls, hkw, ?_, ?_, fun j hj hlj q hq => ?_, fun j => if j = i then v else vs j, fun j hj hlj => ?_, fun k hkn => ?_⟩
        · rw [hd]; exact hdf
        · rw [hd]; simpa [Act.put] using hs
        · by_cases e : j = i
          · subst e
            obtain ⟨hjs, e, he, hb, hej⟩ := needOk_edge hneed ho hq
            exact getD_set_true (by have := hall e he hb; rw [hej] at this; exact this)
          · have hlj' : listed.getD j false = true := by rw [getD_set_ne false (fun x => e x.symm)] at hlj; exact hlj
            exact getD_set_true (hnd2 j hj hlj' q hq)
        · rw [hd]
          by_cases e : j = i
          · subst e
            dsimp only
            rw [if_pos rfl]
            exact ⟨by have h9 := hsz _ (getD_of_lt hj); rw [← hs] at h9; show (a.tmps.setIfInBounds _ v)[_]? = _; rw [Array.getElem?_setIfInBounds_self_of_lt h9], fun _ => hGi⟩
          · dsimp only
            rw [if_neg e]
            have hlj' : listed.getD j false = true := by rw [getD_set_ne false (fun x => e x.symm)] at hlj; exact hlj
            obtain ⟨h3, h4⟩ := h1 j hj hlj'
            have hni : (need.getD j []).contains i = false := by
              cases hc9 : (need.getD j []).contains i with
              | false => rfl
              | true =>
                have := hnd2 j hj hlj' i (List.contains_iff_mem.1 hc9)
                rw [hli] at this; cases this
            have hnt : ((need.getD j []).all fun m => !(need.getD m []).contains i) = true := by
              rw [List.all_eq_true]
              intro m hm
              cases hc9 : (need.getD m []).contains i with
              | false => rfl
              | true =>
                have hlm := hnd2 j hj hlj' m hm
                have hmn : m < L.length := by
                  have hjo : ops[j]? = some (ops[j]'(by omega)) := Array.getElem?_eq_getElem (by omega)
                  obtain ⟨hms, _⟩ := needOk_edge hneed hjo hm
                  omega
                have := hnd2 m hmn hlm i (List.contains_iff_mem.1 hc9)
                rw [hli] at this; cases this
            refine ⟨?_, fun hq => hst j _ ?_ e hni hnt (h4 fun q hq2 hlq => hq q hq2 (getD_set_true hlq))⟩
            rotate_left
            · have h8 := hq i hiL (by
                have hi' : i < listed.size := by omega
                simp [hi'])
              cases hc8 : (kill.getD i []).contains j with
              | false => rfl
              | true => exact absurd (List.contains_iff_mem.1 hc8) h8
            have hne : L.getD i 0 ≠ L.getD j 0 := fun x => e (getD_inj hnd hiL hj x).symm
            simp only [Act.put]
            rw [Array.getElem?_setIfInBounds_ne hne]; exact h3
        · rw [hd]
          have hik : L.getD i 0 ≠ k := hkn i hiL (by
            have hi' : i < listed.size := by omega
            simp [hi'])
          simp only [Act.put]
          rw [Array.getElem?_setIfInBounds_ne hik]
          exact h2 k fun j hj hlj => hkn j hj (getD_set_true hlj)
theorem wp_region_line {id : Nat} {a0 : Act} {w0 : World} (L : List Nat) (need kill : List (List Nat)) (G : Nat → Value → World → Prop) (hm : P.follows .mixedOrders = true) (hL : ops.toList.map (·.dst) = L.map some) (hnd : decide L.Nodup = true)
    (hsz : (L.all fun d => decide (d < a0.tmps.size)) = true)
    (hneed : needOk ops need = true) (hkill : spendOk ops.size need kill = true) (hguard : AllSteps (GuardAt need G) ops.toList 0)
    (hstep : AllSteps (fun i o => ∀ (a : Act) (w : World) (vs : Nat → Value), Keeps w0 w → (∀ k, L.contains k = false → a.tmps[k]? = a0.tmps[k]?) → (∀ j, j ∈ need.getD i [] → a.tmps[L.getD j 0]? = some (vs j) ∧ G j (vs j) w) →
      ∀ K : Act → World → Prop, (∀ v w', Keeps w0 w' → (∀ j u, (kill.getD i []).contains j = false → j ≠ i → (need.getD j []).contains i = false → ((need.getD j []).all fun m => !(need.getD m []).contains i) = true → G j u w → G j u w') → G i v w' → K (a.put o.dst v) w') → Oper.wp P o a w K Q) ops.toList 0)
    (h : ∀ (vs : Nat → Value) (w : World), Keeps w0 w → (∀ i, i < L.length → (∀ q, q < L.length → i ∉ kill.getD q []) → G i (vs i) w) → Q .normal { tmps := setAll vs L 0 a0.tmps, defers := a0.defers } w) :
    (Code.region id ops true).wp P Q a0 w0 := by
  refine wp_region_any hm (wpAny_line (L := L) (need := need) (kill := kill) (G := G) (a0 := a0) (w0 := w0) hL (of_decide_eq_true hnd) (fun d hd => of_decide_eq_true (List.all_eq_true.1 hsz d hd)) hneed hkill (fun i o ho => by have := AllSteps.at_ ops.toList 0 i o hguard (by rw [Array.getElem?_toList]; exact ho); rwa [Nat.zero_add] at this) (fun i o ho => ?_) h _ _ _ _ ?_ ⟨?_, keeps_refl w0, rfl, rfl, fun i hi hl => ?_, fun _ => undef, fun i hi hl => ?_, fun k _ => rfl⟩)
  · have := AllSteps.at_ ops.toList 0 i o hstep (by rw [Array.getElem?_toList]; exact ho)
    rwa [Nat.zero_add] at this
  · exact Nat.le_trans (List.length_filter_le _ _) (by simp)
  · have := congrArg List.length hL; simp at this; simp [this]
  · have : ¬ (Array.replicate ops.size false).getD i false = true := by
      rw [Array.getD_eq_getD_getElem?, Array.getElem?_replicate]; split <;> simp
    exact absurd hl this
  · have : ¬ (Array.replicate ops.size false).getD i false = true := by
      rw [Array.getD_eq_getD_getElem?, Array.getElem?_replicate]; split <;> simp
    exact absurd hl this
end
end Go.Proofs.YtdpfanifagfciaaDoor
