/- A drawn region in which some operations change the world (calls of methods that write): those stand in one row, whatever order is drawn; each other operation has its stage, between two of them. Operations whose guard is shut are passed over. No program in sight. -/
import Derived.Test.YtdpfanifagfciaaDoorDraw
namespace Go.Proofs.YtdpfanifagfciaaDoor
open Go.RowKit
/-- What an operation needs, and what that needs, and so on. -/
def anc (need : List (List Nat)) : Nat → List Nat → List Nat
  | 0, S => S
  | i + 1, S => anc need i (if S.contains i then need.getD i [] ++ S else S)
theorem anc_listed {need : List (List Nat)} {P : Nat → Prop} (h : ∀ q, P q → ∀ j, j ∈ need.getD q [] → P j) : ∀ (n : Nat) (S : List Nat), (∀ j, j ∈ S → P j) → ∀ j, j ∈ anc need n S → P j
  | 0, _, hS, j, hj => hS j hj
  | n + 1, S, hS, j, hj => by
    refine anc_listed h n _ (fun q hq => ?_) j hj
    split at hq
    · rename_i hc
      rcases List.mem_append.1 hq with h1 | h1
      · exact h n (hS n (List.contains_iff_mem.1 hc)) q h1
      · exact hS q h1
    · exact hS q hq
/-- The operations that change the world, in their row; each operation's stage: how many of them stand ahead of it. -/
def stageOk (n : Nat) (need : List (List Nat)) (mu st : List Nat) : Bool :=
  ((List.range mu.length).all fun k => decide (mu.getD k 0 < n) && st.getD (mu.getD k 0) 0 == k) &&
  (List.range n).all fun i => decide (st.getD i 0 ≤ mu.length) && (st.getD i 0 == 0 || (anc need i (need.getD i [])).contains (mu.getD (st.getD i 0 - 1) 0)) &&
    (st.getD i 0 == mu.length || mu.getD (st.getD i 0) 0 == i || (anc need (mu.getD (st.getD i 0) 0 + 1) [mu.getD (st.getD i 0) 0]).contains i)
theorem stageOk_at {n : Nat} {need : List (List Nat)} {mu st : List Nat} (h : stageOk n need mu st = true) {i : Nat} (hi : i < n) :
    st.getD i 0 ≤ mu.length ∧ (st.getD i 0 = 0 ∨ mu.getD (st.getD i 0 - 1) 0 ∈ anc need i (need.getD i [])) ∧ (st.getD i 0 = mu.length ∨ mu.getD (st.getD i 0) 0 = i ∨ i ∈ anc need (mu.getD (st.getD i 0) 0 + 1) [mu.getD (st.getD i 0) 0]) := by
  unfold stageOk at h
  simp only [Bool.and_eq_true, List.all_eq_true, Bool.or_eq_true, beq_iff_eq, decide_eq_true_eq, List.contains_iff_mem] at h
  have h2 := h.2 i (List.mem_range.2 hi)
  refine ⟨h2.1.1, h2.1.2, ?_⟩
  rcases h2.2 with (h3 | h3) | h3
  · exact .inl h3
  · exact .inr (.inl h3)
  · exact .inr (.inr h3)
theorem stageOk_mut {n : Nat} {need : List (List Nat)} {mu st : List Nat} (h : stageOk n need mu st = true) {k : Nat} (hk : k < mu.length) : mu.getD k 0 < n ∧ st.getD (mu.getD k 0) 0 = k := by
  unfold stageOk at h
  simp only [Bool.and_eq_true, List.all_eq_true, beq_iff_eq, decide_eq_true_eq] at h
  exact h.1 k (List.mem_range.2 hk)
theorem mut_at {mu : List Nat} {i : Nat} (h : mu.contains i = true) : ∃ k, k < mu.length ∧ mu.getD k 0 = i := by
  obtain ⟨k, hk, e⟩ := List.getElem_of_mem (List.contains_iff_mem.1 h)
  exact ⟨k, hk, by rw [List.getD_eq_getElem?_getD, List.getElem?_eq_getElem hk]; exact e⟩
theorem mut_in {mu : List Nat} {k : Nat} (h : k < mu.length) : mu.contains (mu.getD k 0) = true :=
  List.contains_iff_mem.2 (by rw [List.getD_eq_getElem?_getD, List.getElem?_eq_getElem h]; exact List.getElem_mem h)
/-- The stage behind operation i. -/
def stNext (mu st : List Nat) (i : Nat) : Nat := if mu.contains i then st.getD i 0 + 1 else st.getD i 0
/-- The value of operation i is v. -/
def upd (vs : Nat → Value) (i : Nat) (v : Value) : Nat → Value := fun j => if j = i then v else vs j
theorem upd_self (vs : Nat → Value) (i : Nat) (v : Value) : upd vs i v i = v := if_pos rfl
theorem upd_other (vs : Nat → Value) {i j : Nat} (v : Value) (h : j ≠ i) : upd vs i v j = vs j := if_neg h
section
variable {P : Program} {ops : Array Oper} {Q : Exit → Act → World → Prop}
/-- Each guard is among what is needed, and its value is the one that is wanted; or the operation is passed over. -/
def GuardS (need : List (List Nat)) (sk : List Nat) (G : Nat → Value → World → Prop) (i : Nat) (o : Oper) : Prop :=
  if sk.contains i then (∃ g b, o.guard = some (g, b) ∧ g ∈ need.getD i [] ∧ ∀ v w, G g v w → v ≠ .bool b) ∧ ∀ w, G i undef w
  else ∀ g b, o.guard = some (g, b) → g ∈ need.getD i [] ∧ ∀ v w, G g v w → v = .bool b
def Staged (n : Nat) (L : List Nat) (need : List (List Nat)) (mu : List Nat) (G : Nat → Value → World → Prop) (I : Nat → (Nat → Value) → World → Prop) (a0 : Act) (listed : Array Bool) (a : Act) (w : World) : Prop :=
  listed.size = n ∧ a.defers = a0.defers ∧ a.tmps.size = a0.tmps.size ∧ (∀ i, listed.getD i false = true → ∀ j, j ∈ need.getD i [] → listed.getD j false = true) ∧
  (∃ s, s ≤ mu.length ∧ (∀ k, k < s → listed.getD (mu.getD k 0) false = true) ∧ (∀ k, s ≤ k → k < mu.length → listed.getD (mu.getD k 0) false = false) ∧
  ∃ vs : Nat → Value, I s vs w ∧
    (∀ i, i < n → listed.getD i false = true → a.tmps[L.getD i 0]? = some (vs i) ∧ G i (vs i) w) ∧
    ∀ k, (∀ i, i < n → listed.getD i false = true → L.getD i 0 ≠ k) → a.tmps[k]? = a0.tmps[k]?)
theorem wpAny_stage {L : List Nat} {need : List (List Nat)} {mu st sk : List Nat} {G : Nat → Value → World → Prop} {R : World → World → Prop} {I : Nat → (Nat → Value) → World → Prop} {a0 : Act} (hL : ops.toList.map (·.dst) = L.map some) (hnd : L.Nodup) (hsz : ∀ d ∈ L, d < a0.tmps.size)
    (hneed : needOk ops need = true) (hstage : stageOk ops.size need mu st = true) (hG : ∀ i v w w', R w w' → G i v w → G i v w') (hrefl : ∀ w, R w w) (hIsk : ∀ i s vs w, sk.contains i = true → I s vs w → I s (upd vs i undef) w) (hmsk : ∀ i, sk.contains i = true → mu.contains i = false)
    (hguard : ∀ i o, ops[i]? = some o → GuardS need sk G i o)
    (hstep : ∀ i o, ops[i]? = some o → sk.contains i = false → ∀ (a : Act) (w : World) (vs : Nat → Value), I (st.getD i 0) vs w → (∀ k, L.contains k = false → a.tmps[k]? = a0.tmps[k]?) → (∀ j, j ∈ need.getD i [] → a.tmps[L.getD j 0]? = some (vs j) ∧ G j (vs j) w) → (∀ j, j < L.length → (anc need j (need.getD j [])).contains i = true → a.tmps[L.getD j 0]? = a0.tmps[L.getD j 0]?) →
      ∀ K : Act → World → Prop, (∀ v w', R w w' → I (stNext mu st i) (upd vs i v) w' → G i v w' → K (a.put o.dst v) w') → Oper.wp P o a w K Q)
    (h : ∀ (vs : Nat → Value) (w : World), I mu.length vs w → (∀ i, i < L.length → G i (vs i) w) → Q .normal { tmps := setAll vs L 0 a0.tmps, defers := a0.defers } w) :
    ∀ (fuel : Nat) (listed : Array Bool) (a : Act) (w : World), (listed.toList.filter (!·)).length ≤ fuel → Staged L.length L need mu G I a0 listed a w → wpAny P .any ops Q fuel listed a w := by
  have hLn : L.length = ops.size := by have := congrArg List.length hL; simpa using this.symm
  have hdst : ∀ {i : Nat} {o : Oper}, ops[i]? = some o → o.dst = some (L.getD i 0) ∧ i < L.length := fun {i o} ho => by
    have hi := (Array.getElem?_eq_some_iff.1 ho).1
    have h1 : (ops.toList.map (·.dst))[i]? = some o.dst := by rw [List.getElem?_map, Array.getElem?_toList, ho]; rfl
    rw [hL, List.getElem?_map] at h1
    have hi' : i < L.length := by omega
    rw [List.getElem?_eq_getElem hi'] at h1
    refine ⟨?_, hi'⟩
    rw [List.getD_eq_getElem?_getD, List.getElem?_eq_getElem hi']
    simpa using h1.symm
  have fin : ∀ (listed : Array Bool) (a : Act) (w : World), Staged L.length L need mu G I a0 listed a w → (∀ i, i < L.length → listed.getD i false = true) → Q .normal a w := by
    rintro listed a w ⟨hls, hdf, hs, _, s, hsm, hlo, hhi, vs, hI, h1, h2⟩ hall
    have e : a = { tmps := setAll vs L 0 a0.tmps, defers := a0.defers } := by
      obtain ⟨t, df⟩ := a
      dsimp only at hdf hs h1 h2
      subst hdf
      congr 1
      apply Array.ext_getElem?
      intro k
      by_cases hk : k ∈ L
      · obtain ⟨q, hq, rfl⟩ := List.getElem_of_mem hk
        have e2 : L[q] = L.getD q 0 := by rw [List.getD_eq_getElem?_getD, List.getElem?_eq_getElem hq]; rfl
        rw [e2, setAll_in vs L 0 a0.tmps hnd hsz q hq, Nat.zero_add]
        exact (h1 q hq (hall q hq)).1
      · rw [setAll_out vs L 0 _ k hk]
        exact h2 k fun i hi _ e => hk (e ▸ getD_of_lt hi)
    have es : s = mu.length := by
      rcases Nat.lt_or_ge s mu.length with hlt | hge
      · have h5 := hhi s (Nat.le_refl _) hlt
        rw [hall _ (by rw [hLn]; exact (stageOk_mut hstage hlt).1)] at h5; cases h5
      · omega
    rw [e]
    subst es
    exact h vs w hI fun i hi => (h1 i hi (hall i hi)).2
  intro fuel
  induction fuel with
  | zero =>
    intro listed a w hc hD
    have hall : ∀ i, i < L.length → listed.getD i false = true := fun i hi => by
      have hn : listed.toList.filter (!·) = [] := List.length_eq_zero_iff.1 (by omega)
      rw [List.filter_eq_nil_iff] at hn
      have hi' : i < listed.size := by rw [hD.1]; exact hi
      have := hn listed[i] (Array.getElem_mem_toList hi')
      rw [Array.getD_eq_getD_getElem?, Array.getElem?_eq_getElem hi']; simpa using this
    refine ⟨?_, fin listed a w hD hall⟩
    rw [List.eq_nil_iff_forall_not_mem]
    intro i hi
    rw [mem_ready] at hi
    obtain ⟨h0, o, ho, _⟩ := hi
    have h1 := hall i (hdst ho).2
    rw [Array.getD_eq_getD_getElem?] at h0 h1
    cases hx : listed[i]? with
    | none => rw [hx] at h0; cases h0
    | some b => rw [hx] at h0 h1; simp at h0 h1; rw [h0] at h1; cases h1
  | succ fuel ih =>
    intro listed a w hc hD
    constructor
    · intro hr
      refine fin listed a w hD ?_
      intro i
      induction i using Nat.strongRecOn with
      | _ i hi =>
        intro hiL
        cases hx : listed.getD i false with
        | true => rfl
        | false =>
          exfalso
          have his : i < ops.size := by omega
          have ho : ops[i]? = some ops[i] := Array.getElem?_eq_getElem his
          have hx' : listed.getD i true = false := by
            have : i < listed.size := by rw [hD.1]; exact hiL
            rw [Array.getD_eq_getD_getElem?, Array.getElem?_eq_getElem this] at hx ⊢
            simpa using hx
          have hm : i ∈ Region.ready .any ops listed := mem_ready.2 ⟨hx', _, ho, fun e he hbe => by
            have := needOk_back hneed ho e he hbe
            exact hi e.on this (by omega)⟩
          rw [hr] at hm; cases hm
    · intro i hi
      obtain ⟨h0, o, ho, hall⟩ := mem_ready.1 hi
      obtain ⟨hd, hiL⟩ := hdst ho
      refine wpOp_step ho fun K' hK => ?_
      obtain ⟨hls, hdf, hs, hcl, s, hsm, hlo, hhi, vs, hI, h1, h2⟩ := hD
      have hli : listed.getD i false = false := by
        have hi' : i < listed.size := by omega
        rw [Array.getD_eq_getD_getElem?, Array.getElem?_eq_getElem hi'] at h0 ⊢
        simpa using h0
      have hneeds : ∀ j, j ∈ need.getD i [] → listed.getD j false = true ∧ j < L.length := fun j hj => by
        obtain ⟨hjs, e, he, hb, hej⟩ := needOk_edge hneed ho hj
        exact ⟨by have := hall e he hb; rw [hej] at this; exact this, by omega⟩
      have hst : st.getD i 0 = s := by
        obtain ⟨g1, g2, g3⟩ := stageOk_at hstage (i := i) (by omega)
        rcases Nat.lt_trichotomy (st.getD i 0) s with hlt | heq | hgt
        · exfalso
          have hm := hlo _ hlt
          rcases g3 with g3 | g3 | g3
          · omega
          · rw [g3, hli] at hm; cases hm
          · have := anc_listed (P := fun q => listed.getD q false = true) hcl _ _ (fun j hj => by rw [List.mem_singleton.1 hj]; exact hm) i g3
            rw [hli] at this; cases this
        · exact heq
        · exfalso
          rcases g2 with g2 | g2
          · omega
          · have := anc_listed (P := fun q => listed.getD q false = true) hcl _ _ (fun j hj => (hneeds j hj).1) _ g2
            rw [hhi _ (by omega) (by omega)] at this; cases this
      have hcl' : ∀ q, (listed.setIfInBounds i true).getD q false = true → ∀ j, j ∈ need.getD q [] → (listed.setIfInBounds i true).getD j false = true := fun q hq j hj => by
        by_cases e : q = i
        · subst e; exact getD_set_true (hneeds j hj).1
        · rw [getD_set_ne false (fun x => e x.symm)] at hq
          exact getD_set_true (hcl q hq j hj)
      have hset : (listed.setIfInBounds i true).getD i false = true := by
        have hi' : i < listed.size := by omega
        simp [hi']
      have hgd := hguard i o ho
      have next : ∀ (v : Value) (w' : World) (s' : Nat), s' ≤ mu.length → (∀ k, k < s' → (listed.setIfInBounds i true).getD (mu.getD k 0) false = true) → (∀ k, s' ≤ k → k < mu.length → (listed.setIfInBounds i true).getD (mu.getD k 0) false = false) →
          R w w' → I s' (upd vs i v) w' → G i v w' → wpAny P .any ops Q fuel (listed.setIfInBounds i true) (a.put o.dst v) w' := fun v w' s' hs' hlo' hhi' hR hI' hGi => by
        refine ih _ _ _ (by have := count_set h0; omega) ⟨by simpa using hls, ?_, ?_, hcl', s', hs', hlo', hhi', upd vs i v, hI', fun j hj hlj => ?_, fun k hkn => ?_⟩
        · rw [hd]; exact hdf
        · rw [hd]; simpa [Act.put] using hs
        · rw [hd]
          by_cases e : j = i
          · subst e
            rw [upd_self]
            exact ⟨by have h9 := hsz _ (getD_of_lt hj); rw [← hs] at h9; show (a.tmps.setIfInBounds _ v)[_]? = _; rw [Array.getElem?_setIfInBounds_self_of_lt h9], hGi⟩
          · rw [upd_other _ _ e]
            have hlj' : listed.getD j false = true := by rw [getD_set_ne false (fun x => e x.symm)] at hlj; exact hlj
            obtain ⟨h3, h4⟩ := h1 j hj hlj'
            refine ⟨?_, hG j _ _ _ hR h4⟩
            have hne : L.getD i 0 ≠ L.getD j 0 := fun x => e (getD_inj hnd hiL hj x).symm
            simp only [Act.put]
            rw [Array.getElem?_setIfInBounds_ne hne]; exact h3
        · rw [hd]
          have hik : L.getD i 0 ≠ k := hkn i hiL hset
          simp only [Act.put]
          rw [Array.getElem?_setIfInBounds_ne hik]
          exact h2 k fun j hj hlj => hkn j hj (getD_set_true hlj)
      have same : mu.contains i = false → (∀ k, k < s → (listed.setIfInBounds i true).getD (mu.getD k 0) false = true) ∧ (∀ k, s ≤ k → k < mu.length → (listed.setIfInBounds i true).getD (mu.getD k 0) false = false) := fun hmi => by
        refine ⟨fun k hk => getD_set_true (hlo k hk), fun k h3 h4 => ?_⟩
        have hne : i ≠ mu.getD k 0 := fun x => by rw [x, mut_in h4] at hmi; cases hmi
        rw [getD_set_ne false hne]; exact hhi k h3 h4
      unfold GuardS at hgd
      split at hgd
      · rename_i hsk
        obtain ⟨⟨g, b, hg1, hg2, hg3⟩, hg4⟩ := hgd
        have hmi := hmsk i hsk
        have hw : Region.wanted o (yielded ops a.tmps) = false := by
          unfold Region.wanted
          rw [hg1]
          obtain ⟨hlg, hgl⟩ := hneeds g hg2
          obtain ⟨h3, h4⟩ := h1 g hgl hlg
          have h5 := hg3 _ _ h4
          have h6 : ops[g]? = some (ops[g]'(by omega)) := Array.getElem?_eq_getElem (by omega)
          have h7 := (hdst h6).1
          dsimp only
          unfold yielded
          rw [h6]
          simp only [Option.bind_some, h7]
          rw [h3]
          cases hv : vs g with
          | bool c => rw [hv] at h5; simp; exact fun x => h5 (by rw [x])
          | _ => simp
        rw [if_neg (by rw [hw]; exact Bool.false_ne_true)]
        obtain ⟨k1, k2⟩ := same hmi
        exact hK _ _ (next undef w s hsm k1 k2 (hrefl w) (hIsk i s vs w hsk hI) (hg4 w))
      · rename_i hsk
        have hw : Region.wanted o (yielded ops a.tmps) = true := by
          unfold Region.wanted
          cases hgg : o.guard with
          | none => rfl
          | some gb =>
            obtain ⟨g, b⟩ := gb
            obtain ⟨hgn, hgv⟩ := hgd g b hgg
            obtain ⟨hlg, hgl⟩ := hneeds g hgn
            obtain ⟨h3, h4⟩ := h1 g hgl hlg
            have h5 := hgv _ _ h4
            rw [h5] at h3
            have h6 : ops[g]? = some (ops[g]'(by omega)) := Array.getElem?_eq_getElem (by omega)
            have h7 := (hdst h6).1
            have h8 : yielded ops a.tmps g = some b := by
              unfold yielded
              rw [h6]
              simp only [Option.bind_some, h7]
              rw [h3]
            dsimp only
            rw [h8]
            simp
        rw [if_pos hw]
        refine hstep i o ho (by simpa using hsk) a w vs (by rw [hst]; exact hI) (fun k hkL => h2 k fun q hq _ e => ?_) (fun j hj => h1 j (hneeds j hj).2 (hneeds j hj).1) (fun j hj hji => h2 _ fun q hq hlq e => ?_) K' fun v w' hR hI' hGi => hK _ _ ?_
        · have : L.contains k = true := by rw [List.contains_iff_mem, ← e]; exact getD_of_lt hq
          rw [hkL] at this; cases this
        · have hqj := getD_inj hnd hq hj e
          subst hqj
          have := anc_listed (P := fun q => listed.getD q false = true) hcl _ _ (fun m hm => hcl q hlq m hm) i (List.contains_iff_mem.1 hji)
          rw [hli] at this; cases this
        · unfold stNext at hI'
          split at hI'
          · rename_i hmi
            obtain ⟨k, hk, hke⟩ := mut_at hmi
            have h9 := (stageOk_mut hstage hk).2
            rw [hke, hst] at h9
            subst h9
            rw [hst] at hI'
            refine next v w' (s + 1) (by omega) (fun q hq => ?_) (fun q h3 h4 => ?_) hR hI' hGi
            · rcases Nat.lt_or_ge q s with h5 | h5
              · exact getD_set_true (hlo q h5)
              · obtain rfl : q = s := by omega
                rw [hke]; exact hset
            · have hne : i ≠ mu.getD q 0 := fun x => by
                have := (stageOk_mut hstage h4).2
                rw [← x, hst] at this; omega
              rw [getD_set_ne false hne]; exact hhi q (by omega) h4
          · rename_i hmi
            rw [hst] at hI'
            obtain ⟨k1, k2⟩ := same (by simpa using hmi)
            exact next v w' s hsm k1 k2 hR hI' hGi
/-- As above, for a region: each operation's step once, the end once. -/
theorem wp_region_stage {id : Nat} {a0 : Act} {w0 : World} (L : List Nat) (need : List (List Nat)) (mu st sk : List Nat) (G : Nat → Value → World → Prop) (R : World → World → Prop) (I : Nat → (Nat → Value) → World → Prop) (hm : P.follows .mixedOrders = true) (hL : ops.toList.map (·.dst) = L.map some) (hnd : decide L.Nodup = true)
    (hsz : (L.all fun d => decide (d < a0.tmps.size)) = true)
    (hneed : needOk ops need = true) (hstage : stageOk ops.size need mu st = true) (hmsk : (sk.all fun i => !mu.contains i) = true) (hG : ∀ i v w w', R w w' → G i v w → G i v w') (hrefl : ∀ w, R w w) (hIsk : ∀ i s vs w, sk.contains i = true → I s vs w → I s (upd vs i undef) w)
    (hguard : AllSteps (GuardS need sk G) ops.toList 0) (h0 : ∀ vs n, I 0 vs (w0.drewN n))
    (hstep : AllSteps (fun i o => sk.contains i = false → ∀ (a : Act) (w : World) (vs : Nat → Value), I (st.getD i 0) vs w → (∀ k, L.contains k = false → a.tmps[k]? = a0.tmps[k]?) → (∀ j, j ∈ need.getD i [] → a.tmps[L.getD j 0]? = some (vs j) ∧ G j (vs j) w) → (∀ j, j < L.length → (anc need j (need.getD j [])).contains i = true → a.tmps[L.getD j 0]? = a0.tmps[L.getD j 0]?) →
      ∀ K : Act → World → Prop, (∀ v w', R w w' → I (stNext mu st i) (upd vs i v) w' → G i v w' → K (a.put o.dst v) w') → Oper.wp P o a w K Q) ops.toList 0)
    (h : ∀ (vs : Nat → Value) (w : World), I mu.length vs w → (∀ i, i < L.length → G i (vs i) w) → Q .normal { tmps := setAll vs L 0 a0.tmps, defers := a0.defers } w) :
    (Code.region id ops true).wp P Q a0 w0 := by
  have emp : ∀ i, (Array.replicate ops.size false).getD i false = false := fun i => by
    rw [Array.getD_eq_getD_getElem?, Array.getElem?_replicate]; split <;> simp
  refine wp_region_any hm (wpAny_stage (L := L) (need := need) (mu := mu) (st := st) (sk := sk) (G := G) (R := R) (I := I) (a0 := a0) hL (of_decide_eq_true hnd) (fun d hd => of_decide_eq_true (List.all_eq_true.1 hsz d hd)) hneed hstage hG hrefl hIsk (fun i hi => by have := List.all_eq_true.1 hmsk i (List.contains_iff_mem.1 hi); simpa using this) (fun i o ho => by have := AllSteps.at_ ops.toList 0 i o hguard (by rw [Array.getElem?_toList]; exact ho); rwa [Nat.zero_add] at this) (fun i o ho => ?_) h _ _ _ _ ?_ ⟨?_, rfl, rfl, fun q hq => ?_, 0, Nat.zero_le _, fun k hk => absurd hk (Nat.not_lt_zero _), fun k _ _ => emp _, fun _ => undef, h0 _ 1, fun i hi hl => ?_, fun k _ => rfl⟩)
  · have := AllSteps.at_ ops.toList 0 i o hstep (by rw [Array.getElem?_toList]; exact ho)
    rwa [Nat.zero_add] at this
  · exact Nat.le_trans (List.length_filter_le _ _) (by simp)
  · have := congrArg List.length hL; simp at this; simp [this]
  · rw [emp] at hq; cases hq
  · rw [emp] at hl; cases hl
end
end Go.Proofs.YtdpfanifagfciaaDoor
