/- A drawn region whose operations make values and memory and keep what there is, in whatever order: each is taken once, out of what those gave that it follows. No program in sight. -/
import Derived.Test.YtdpfanifagfciaaDoorSeq
import Derived.Deep.RegionWith
namespace Go.Proofs.YtdpfanifagfciaaDoor
open Go.RowKit
section
variable {P : Program} {ops : Array Oper} {Q : Exit → Act → World → Prop}

/-- What the operations need of one another is in their edges. -/
def needOk (ops : Array Oper) (need : List (List Nat)) : Bool :=
  (List.range ops.size).all fun i => match ops[i]? with
    | none => false
    | some o => (o.after.all fun e => !Region.binds .any e || decide (e.on < i)) && (need.getD i []).all fun j => decide (j < ops.size) && o.after.any fun e => Region.binds .any e && e.on == j
theorem needOk_back {need : List (List Nat)} (h : needOk ops need = true) {i : Nat} {o : Oper} (ho : ops[i]? = some o) : ∀ e ∈ o.after, Region.binds .any e = true → e.on < i := by
  unfold needOk at h
  rw [List.all_eq_true] at h
  have := h i (List.mem_range.2 (Array.getElem?_eq_some_iff.1 ho).1)
  rw [ho] at this
  simp only [Bool.and_eq_true] at this
  have h2 := this.1
  rw [Array.all_eq_true'] at h2
  exact fun e he hb => by
    have h3 := h2 e he
    rw [hb] at h3
    exact of_decide_eq_true (by simpa using h3)
theorem needOk_edge {need : List (List Nat)} (h : needOk ops need = true) {i : Nat} {o : Oper} (ho : ops[i]? = some o) {j : Nat} (hj : j ∈ need.getD i []) :
    j < ops.size ∧ ∃ e ∈ o.after, Region.binds .any e = true ∧ e.on = j := by
  unfold needOk at h
  rw [List.all_eq_true] at h
  have := h i (List.mem_range.2 (Array.getElem?_eq_some_iff.1 ho).1)
  rw [ho] at this
  simp only [Bool.and_eq_true, List.all_eq_true] at this
  have h2 := this.2 j hj
  obtain ⟨e, he, hb⟩ := Array.any_eq_true'.1 h2.2
  simp only [Bool.and_eq_true, beq_iff_eq] at hb
  exact ⟨of_decide_eq_true h2.1, e, he, hb.1, hb.2⟩

/-- Each guard is among what is needed, and its value is the one that is wanted. -/
def GuardAt (need : List (List Nat)) (G : Nat → Value → World → Prop) (i : Nat) (o : Oper) : Prop :=
  ∀ g b, o.guard = some (g, b) → g ∈ need.getD i [] ∧ ∀ v w, G g v w → v = .bool b
/-- The act and the world while some operations are listed. -/
def Drawn (n : Nat) (L : List Nat) (G : Nat → Value → World → Prop) (a0 : Act) (w0 : World) (listed : Array Bool) (a : Act) (w : World) : Prop :=
  listed.size = n ∧ Keeps w0 w ∧ a.defers = a0.defers ∧ a.tmps.size = a0.tmps.size ∧ ∃ vs : Nat → Value,
    (∀ i, i < n → listed.getD i false = true → a.tmps[L.getD i 0]? = some (vs i) ∧ G i (vs i) w) ∧
    ∀ k, (∀ i, i < n → listed.getD i false = true → L.getD i 0 ≠ k) → a.tmps[k]? = a0.tmps[k]?

/-- All slots set. -/
def setAll (vs : Nat → Value) : List Nat → Nat → Array Value → Array Value
  | [], _, t => t
  | d :: L, i, t => setAll vs L (i + 1) (t.setIfInBounds d (vs i))
theorem setAll_size (vs : Nat → Value) : ∀ (L : List Nat) (i : Nat) (t : Array Value), (setAll vs L i t).size = t.size
  | [], _, _ => rfl
  | d :: L, i, t => by rw [setAll, setAll_size]; simp
theorem setAll_out (vs : Nat → Value) : ∀ (L : List Nat) (i : Nat) (t : Array Value) (k : Nat), k ∉ L → (setAll vs L i t)[k]? = t[k]?
  | [], _, _, _, _ => rfl
  | d :: L, i, t, k, h => by
    rw [setAll, setAll_out vs L (i + 1) _ k (fun x => h (List.mem_cons_of_mem _ x))]
    exact Array.getElem?_setIfInBounds_ne (fun e => h (by rw [e]; exact List.mem_cons_self ..))
theorem setAll_in (vs : Nat → Value) : ∀ (L : List Nat) (i : Nat) (t : Array Value), L.Nodup → (∀ d ∈ L, d < t.size) → ∀ q, q < L.length → (setAll vs L i t)[L.getD q 0]? = some (vs (i + q))
  | [], _, _, _, _, q, h => by simp at h
  | d :: L, i, t, hn, hd, q, h => by
    rw [setAll]
    cases q with
    | zero =>
      rw [List.getD_cons_zero, setAll_out vs L (i + 1) _ d (List.nodup_cons.1 hn).1]
      simp [hd d (List.mem_cons_self ..)]
    | succ q =>
      rw [List.getD_cons_succ, setAll_in vs L (i + 1) _ (List.nodup_cons.1 hn).2 (fun x hx => by simpa using hd x (List.mem_cons_of_mem _ hx)) q (by simpa using h)]
      congr 2; omega

theorem getD_of_lt {L : List Nat} {i : Nat} (h : i < L.length) : L.getD i 0 ∈ L := by
  rw [List.getD_eq_getElem?_getD, List.getElem?_eq_getElem h]; exact List.getElem_mem h
theorem getD_inj {L : List Nat} (hn : L.Nodup) {i j : Nat} (hi : i < L.length) (hj : j < L.length) (e : L.getD i 0 = L.getD j 0) : i = j := by
  rw [List.getD_eq_getElem?_getD, List.getElem?_eq_getElem hi, List.getD_eq_getElem?_getD, List.getElem?_eq_getElem hj] at e
  exact (List.getElem_inj hn).1 e

theorem count_list : ∀ (l : List Bool) (i : Nat), l[i]? = some false → ((l.set i true).filter (!·)).length + 1 = (l.filter (!·)).length
  | [], i, h => by simp at h
  | x :: l, 0, h => by simp only [List.getElem?_cons_zero, Option.some.injEq] at h; subst h; simp
  | x :: l, i + 1, h => by
    have := count_list l i (by simpa using h)
    rw [List.set_cons_succ]
    cases x <;> simp <;> omega
theorem count_set {listed : Array Bool} {i : Nat} (h : listed.getD i true = false) : ((listed.setIfInBounds i true).toList.filter (!·)).length + 1 = (listed.toList.filter (!·)).length := by
  rw [Array.toList_setIfInBounds]
  refine count_list _ _ ?_
  rw [Array.getElem?_toList]
  rw [Array.getD_eq_getD_getElem?] at h
  cases hx : listed[i]? with
  | none => rw [hx] at h; cases h
  | some b => rw [hx] at h; simp at h; rw [h]

theorem wpAny_drawn {L : List Nat} {need : List (List Nat)} {G : Nat → Value → World → Prop} {a0 : Act} {w0 : World} (hL : ops.toList.map (·.dst) = L.map some) (hnd : L.Nodup) (hsz : ∀ d ∈ L, d < a0.tmps.size)
    (hneed : needOk ops need = true) (hG : ∀ i v w w', Keeps w w' → G i v w → G i v w') (hguard : ∀ i o, ops[i]? = some o → GuardAt need G i o)
    (hstep : ∀ i o, ops[i]? = some o → ∀ (a : Act) (w : World) (vs : Nat → Value), Keeps w0 w → (∀ k, L.contains k = false → a.tmps[k]? = a0.tmps[k]?) → (∀ j, j ∈ need.getD i [] → a.tmps[L.getD j 0]? = some (vs j) ∧ G j (vs j) w) →
      ∀ K : Act → World → Prop, (∀ v w', Keeps w w' → G i v w' → K (a.put o.dst v) w') → Oper.wp P o a w K Q)
    (h : ∀ (vs : Nat → Value) (w : World), Keeps w0 w → (∀ i, i < L.length → G i (vs i) w) → Q .normal { tmps := setAll vs L 0 a0.tmps, defers := a0.defers } w) :
    ∀ (fuel : Nat) (listed : Array Bool) (a : Act) (w : World), (listed.toList.filter (!·)).length ≤ fuel → Drawn L.length L G a0 w0 listed a w → wpAny P .any ops Q fuel listed a w := by
  have hLn : L.length = ops.size := by have := congrArg List.length hL; simpa using this.symm
  have hdst : ∀ {i : Nat} {o : Oper}, ops[i]? = some o → o.dst = some (L.getD i 0) ∧ i < L.length := fun {i o} ho => by
    have hi := (Array.getElem?_eq_some_iff.1 ho).1
    have h1 : (ops.toList.map (·.dst))[i]? = some o.dst := by rw [List.getElem?_map, Array.getElem?_toList, ho]; rfl
    rw [hL, List.getElem?_map] at h1
    have hi' : i < L.length := by omega
    rw [List.getElem?_eq_getElem hi'] at h1
    refine ⟨?_, hi'⟩
    rw [List.getD_eq_getElem?_getD, List.getElem?_eq_getElem hi']
    simpa using h1.symm
  have fin : ∀ (listed : Array Bool) (a : Act) (w : World), Drawn L.length L G a0 w0 listed a w → (∀ i, i < L.length → listed.getD i false = true) → Q .normal a w := by
    rintro listed a w ⟨_, hk, hdf, hs, vs, h1, h2⟩ hall
    have e : a = { tmps := setAll vs L 0 a0.tmps, defers := a0.defers } := by
      obtain ⟨t, df⟩ := a
      dsimp only at hdf hs h1 h2
      subst hdf
      congr 1
      apply Array.ext_getElem?
      intro k
      by_cases hk : k ∈ L
      · obtain ⟨q, hq, rfl⟩ := List.getElem_of_mem hk
        have e2 : L[q] = L.getD q 0 := by rw [List.getD_eq_getElem?_getD, List.getElem?_eq_getElem hq]; rfl
        rw [e2, setAll_in vs L 0 a0.tmps hnd hsz q hq, Nat.zero_add]
        exact (h1 q hq (hall q hq)).1
      · rw [setAll_out vs L 0 _ k hk]
        exact h2 k fun i hi _ e => hk (e ▸ getD_of_lt hi)
    rw [e]
    exact h vs w hk fun i hi => (h1 i hi (hall i hi)).2
  intro fuel
  induction fuel with
  | zero =>
    intro listed a w hc hD
    have hall : ∀ i, i < L.length → listed.getD i false = true := fun i hi => by
      have hn : listed.toList.filter (!·) = [] := List.length_eq_zero_iff.1 (by omega)
      rw [List.filter_eq_nil_iff] at hn
      have hi' : i < listed.size := by rw [hD.1]; exact hi
      have := hn listed[i] (Array.getElem_mem_toList hi')
      rw [Array.getD_eq_getD_getElem?, Array.getElem?_eq_getElem hi']; simpa using this
    refine ⟨?_, fin listed a w hD hall⟩
    rw [List.eq_nil_iff_forall_not_mem]
    intro i hi
    rw [mem_ready] at hi
    obtain ⟨h0, o, ho, _⟩ := hi
    have h1 := hall i (hdst ho).2
    rw [Array.getD_eq_getD_getElem?] at h0 h1
    cases hx : listed[i]? with
    | none => rw [hx] at h0; cases h0
    | some b => rw [hx] at h0 h1; simp at h0 h1; rw [h0] at h1; cases h1
  | succ fuel ih =>
    intro listed a w hc hD
    constructor
    · intro hr
      refine fin listed a w hD ?_
      intro i
      induction i using Nat.strongRecOn with
      | _ i hi =>
        intro hiL
        cases hx : listed.getD i false with
        | true => rfl
        | false =>
          exfalso
          have his : i < ops.size := by omega
          have ho : ops[i]? = some ops[i] := Array.getElem?_eq_getElem his
          have hx' : listed.getD i true = false := by
            have : i < listed.size := by rw [hD.1]; exact hiL
            rw [Array.getD_eq_getD_getElem?, Array.getElem?_eq_getElem this] at hx ⊢
            simpa using hx
          have hm : i ∈ Region.ready .any ops listed := mem_ready.2 ⟨hx', _, ho, fun e he hbe => by
            have := needOk_back hneed ho e he hbe
            exact hi e.on this (by omega)⟩
          rw [hr] at hm; cases hm
    · intro i hi
      obtain ⟨h0, o, ho, hall⟩ := mem_ready.1 hi
      obtain ⟨hd, hiL⟩ := hdst ho
      refine wpOp_step ho fun K' hK => ?_
      obtain ⟨hls, hk, hdf, hs, vs, h1, h2⟩ := hD
      have hw : Region.wanted o (yielded ops a.tmps) = true := by
        unfold Region.wanted
        cases hgd : o.guard with
        | none => rfl
        | some gb =>
          obtain ⟨g, b⟩ := gb
          obtain ⟨hgn, hgv⟩ := hguard i o ho g b hgd
          obtain ⟨hjs, e, he, hb, hej⟩ := needOk_edge hneed ho hgn
          obtain ⟨h3, h4⟩ := h1 g (by omega) (by have := hall e he hb; rw [hej] at this; exact this)
          have h5 := hgv _ _ h4
          rw [h5] at h3
          have h6 : ops[g]? = some ops[g] := Array.getElem?_eq_getElem hjs
          have h7 := (hdst h6).1
          have h8 : yielded ops a.tmps g = some b := by
            unfold yielded
            rw [h6]
            simp only [Option.bind_some, h7]
            rw [h3]
          dsimp only
          rw [h8]
          simp
      rw [if_pos hw]
      refine hstep i o ho a w vs hk (fun k hkL => h2 k fun q hq _ e => ?_) (fun j hj => ?_) K' fun v w' hkw hGi => hK _ _ ?_
      · have : L.contains k = true := by rw [List.contains_iff_mem, ← e]; exact getD_of_lt hq
        rw [hkL] at this; cases this
      · obtain ⟨hjs, e, he, hb, hej⟩ := needOk_edge hneed ho hj
        exact h1 j (by omega) (by have := hall e he hb; rw [hej] at this; exact this)
      · refine ih _ _ _ (by have := count_set h0; omega) ⟨by simpa using hls, hk.call hkw (Nat.le_refl _), ?_, ?_, fun j => if j = i then v else vs j, fun j hj hlj => ?_, fun k hkn => ?_⟩
        · rw [hd]; exact hdf
        · rw [hd]; simpa [Act.put] using hs
        · rw [hd]
          by_cases e : j = i
          · subst e
            dsimp only
            rw [if_pos rfl]
            exact ⟨by have h9 := hsz _ (getD_of_lt hj); rw [← hs] at h9; show (a.tmps.setIfInBounds _ v)[_]? = _; rw [Array.getElem?_setIfInBounds_self_of_lt h9], hGi⟩
          · dsimp only
            rw [if_neg e]
            have hlj' : listed.getD j false = true := by rw [getD_set_ne false (fun x => e x.symm)] at hlj; exact hlj
            obtain ⟨h3, h4⟩ := h1 j hj hlj'
            refine ⟨?_, hG j _ _ _ hkw h4⟩
            have hne : L.getD i 0 ≠ L.getD j 0 := fun x => e (getD_inj hnd hiL hj x).symm
            simp only [Act.put]
            rw [Array.getElem?_setIfInBounds_ne hne]; exact h3
        · rw [hd]
          have hik : L.getD i 0 ≠ k := hkn i hiL (by
            have hi' : i < listed.size := by omega
            simp [hi'])
          simp only [Act.put]
          rw [Array.getElem?_setIfInBounds_ne hik]
          exact h2 k fun j hj hlj => hkn j hj (getD_set_true hlj)
/-- Each operation's step, one behind the other. -/
def AllSteps (S : Nat → Oper → Prop) : List Oper → Nat → Prop
  | [], _ => True
  | o :: l, i => S i o ∧ AllSteps S l (i + 1)
theorem AllSteps.at_ {S : Nat → Oper → Prop} : ∀ (l : List Oper) (k i : Nat) (o : Oper), AllSteps S l k → l[i]? = some o → S (k + i) o
  | [], _, _, _, _, h => by simp at h
  | x :: l, k, 0, o, hs, h => by simp only [List.getElem?_cons_zero, Option.some.injEq] at h; subst h; exact hs.1
  | x :: l, k, i + 1, o, hs, h => by
    have := AllSteps.at_ l (k + 1) i o hs.2 (by simpa using h)
    rwa [show k + 1 + i = k + (i + 1) from by omega] at this

theorem wp_region_drawn {id : Nat} {a0 : Act} {w0 : World} (L : List Nat) (need : List (List Nat)) (G : Nat → Value → World → Prop) (hm : P.follows .mixedOrders = true) (hL : ops.toList.map (·.dst) = L.map some) (hnd : decide L.Nodup = true)
    (hsz : (L.all fun d => decide (d < a0.tmps.size)) = true)
    (hneed : needOk ops need = true) (hG : ∀ i v w w', Keeps w w' → G i v w → G i v w') (hguard : AllSteps (GuardAt need G) ops.toList 0)
    (hstep : AllSteps (fun i o => ∀ (a : Act) (w : World) (vs : Nat → Value), Keeps w0 w → (∀ k, L.contains k = false → a.tmps[k]? = a0.tmps[k]?) → (∀ j, j ∈ need.getD i [] → a.tmps[L.getD j 0]? = some (vs j) ∧ G j (vs j) w) →
      ∀ K : Act → World → Prop, (∀ v w', Keeps w w' → G i v w' → K (a.put o.dst v) w') → Oper.wp P o a w K Q) ops.toList 0)
    (h : ∀ (vs : Nat → Value) (w : World), Keeps w0 w → (∀ i, i < L.length → G i (vs i) w) → Q .normal { tmps := setAll vs L 0 a0.tmps, defers := a0.defers } w) :
    (Code.region id ops true).wp P Q a0 w0 := by
  refine wp_region_any hm (wpAny_drawn (L := L) (need := need) (G := G) (a0 := a0) (w0 := w0) hL (of_decide_eq_true hnd) (fun d hd => of_decide_eq_true (List.all_eq_true.1 hsz d hd)) hneed hG (fun i o ho => by have := AllSteps.at_ ops.toList 0 i o hguard (by rw [Array.getElem?_toList]; exact ho); rwa [Nat.zero_add] at this) (fun i o ho => ?_) h _ _ _ _ ?_ ⟨?_, keeps_refl w0, rfl, rfl, fun _ => undef, fun i hi hl => ?_, fun k _ => rfl⟩)
  · have := AllSteps.at_ ops.toList 0 i o hstep (by rw [Array.getElem?_toList]; exact ho)
    rwa [Nat.zero_add] at this
  · exact Nat.le_trans (List.length_filter_le _ _) (by simp)
  · have := congrArg List.length hL; simp at this; simp [this]
  · have : ¬ (Array.replicate ops.size false).getD i false = true := by
      rw [Array.getD_eq_getD_getElem?, Array.getElem?_replicate]; split <;> simp
    exact absurd hl this
end
end Go.Proofs.YtdpfanifagfciaaDoor
