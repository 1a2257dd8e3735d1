/- The walk of code.hand: the payloads at hand, by their numbers, or how they are refused. -/
import Derived.Test.YtllfhaocdknejaaDoorHeld
import Derived.Test.YtllfhaocdknejaaDoorMatOf
import Derived.Test.YtllfhaocdknejaaDoorCodeEn
namespace Go.Proofs.YtllfhaocdknejaaDoor
open Go.RowKit
attribute [local go_sem ↓] Go.wp_at_zero Go.wp_at_succ
/-- Numbers below n, each once. -/
def goodH (n : Int) (l : List Int) : Bool := l.all (fun x => decide (0 ≤ x ∧ x < n)) && decide l.Nodup
def handE (k n : Int) (hv : List Int) (m : Nat) : Int := if codeB k n && decide (hv.length = m) then (if goodH n hv then (if (hv.length : Int) < k then 54 else 0) else 1) else 1
/-- The payload of number x. -/
def heldF (hv : List Int) (ps : List ByteArray) (x : Int) : Option ByteArray := (hv.zip ps).lookup x
theorem goodH_iff {n : Int} {l : List Int} : goodH n l = true ↔ (∀ x ∈ l, 0 ≤ x ∧ x < n) ∧ l.Nodup := by
  unfold goodH; simp
theorem goodH_take {n : Int} {l : List Int} (h : goodH n l = true) (i : Nat) : goodH n (l.take i) = true := by
  rw [goodH_iff] at *
  exact ⟨fun x hx => h.1 x (List.mem_of_mem_take hx), h.2.sublist (List.take_sublist _ _)⟩
theorem goodH_succ {n : Int} {l : List Int} {i : Nat} (hi : i < l.length) (h : goodH n (l.take i) = true) (h1 : l[i] ∉ l.take i) (h2 : 0 ≤ l[i] ∧ l[i] < n) : goodH n (l.take (i + 1)) = true := by
  rw [goodH_iff] at *
  rw [List.take_succ_eq_append_getElem hi]
  refine ⟨fun x hx => ?_, ?_⟩
  · rcases List.mem_append.1 hx with hx | hx
    · exact h.1 x hx
    · rw [List.mem_singleton.1 hx]; exact h2
  · rw [List.nodup_append]
    exact ⟨h.2, by simp, fun a ha b hb e => h1 (by rw [List.mem_singleton.1 hb] at e; rw [← e]; exact ha)⟩
theorem goodH_bad {n : Int} {l : List Int} {i : Nat} (hi : i < l.length) (h : l[i] ∈ l.take i ∨ l[i] < 0 ∨ n ≤ l[i]) : goodH n l = false := by
  cases hg : goodH n l with
  | false => rfl
  | true =>
    have h1 := goodH_iff.1 (goodH_take hg (i + 1))
    have h2 := h1.1 l[i] (by rw [List.take_succ_eq_append_getElem hi]; exact List.mem_append_right _ (List.mem_singleton.2 rfl))
    rcases h with h | h | h
    · have h3 := h1.2
      rw [List.take_succ_eq_append_getElem hi, List.nodup_append] at h3
      exact absurd rfl (h3.2.2 _ h _ (by simp))
    · omega
    · omega
theorem lookup_none {l : List Int} {ps : List ByteArray} (hl : l.length = ps.length) (x : Int) : (heldF l ps x).isSome = decide (x ∈ l) := by
  unfold heldF
  induction l generalizing ps with
  | nil => rfl
  | cons a r ih =>
    cases ps with
    | nil => simp at hl
    | cons p q =>
      rw [List.zip_cons_cons, List.lookup_cons]
      by_cases e : x = a
      · subst e; simp
      · have e2 : (x == a) = false := by simp [e]
        rw [e2]
        simp only [List.mem_cons, e, false_or]
        exact ih (by simpa using hl)
theorem heldF_take {l : List Int} {ps : List ByteArray} (hl : l.length = ps.length) {i : Nat} (hi : i < l.length) (h1 : l[i] ∉ l.take i) (x : Int) :
    (if x = l[i] then some (ps[i]'(by omega)) else heldF (l.take i) (ps.take i) x) = heldF (l.take (i + 1)) (ps.take (i + 1)) x := by
  have hp : i < ps.length := by omega
  have e : (l.take (i + 1)).zip (ps.take (i + 1)) = (l.take i).zip (ps.take i) ++ [(l[i], ps[i])] := by
    rw [List.take_succ_eq_append_getElem hi, List.take_succ_eq_append_getElem hp, List.zip_append (by rw [List.length_take, List.length_take]; omega)]; rfl
  have hn : heldF (l.take i) (ps.take i) l[i] = none := by
    have := lookup_none (l := l.take i) (ps := ps.take i) (by rw [List.length_take, List.length_take]; omega) l[i]
    rw [decide_eq_false h1] at this
    exact Option.isSome_eq_false_iff.1 this |> Option.isNone_iff_eq_none.1
  unfold heldF at *
  rw [e, List.lookup_append]
  by_cases hx : x = l[i]
  · subst hx; rw [if_pos rfl, hn]; simp
  · rw [if_neg hx]
    have e2 : (x == l[i]) = false := by simp [hx]
    rw [List.lookup_cons, e2]; simp
theorem put_keeps {w1 wo w7 : World} {o : Obj} (h : Keeps w1 wo) (c : Chg (fun k => k = w1.heap.size) (wo.alloc o) w7) : Keeps w1 w7 :=
  ((h.chg.alloc o).trans (c.mono fun x _ e => by omega)).keeps fun x hx e => by omega
/-- What `hand` tells. -/
def GiveHand (w : World) (k n : Int) (hv : List Int) (ps : List ByteArray) (e : Ending) (w' : World) : Prop :=
  ∃ v, e = .returned (.tuple #[v, .int .i64 (handE k n hv ps.length)]) ∧ (handE k n hv ps.length = 0 → ∃ B, w.heap.size ≤ B ∧ v = .map (some B) ∧ HeldM w' B hv.length (heldF hv ps)) ∧ Keeps w w'
theorem int_cellP {w : World} {p : Option Addr} {n c : Nat} {l : List Int} (h : SeqAt IsInt w.heap (.slice p n c) l) {i : Nat} (hi : i < l.length) : ∃ b off, p = some ⟨b, off, none⟩ ∧ w.cell? ⟨b, off + i, none⟩ = some (.int .i64 l[i]) := by
  obtain ⟨b, off, c', u, e, c1, r1⟩ := seq_cell h hi
  injection e with e1 _ _
  unfold IsInt at r1
  exact ⟨b, off, e1, by rw [c1, r1]⟩
theorem text_cellH {w : World} {p : Option Addr} {n c : Nat} {l : List ByteArray} (h : TextsAt w.heap (.slice p n c) l) {i : Nat} (hi : i < l.length) : ∃ b off, p = some ⟨b, off, none⟩ ∧ w.cell? ⟨b, off + i, none⟩ = some (.string l[i]) := by
  obtain ⟨b, off, c', u, e, c1, r1⟩ := seq_cell h hi
  injection e with e1 _ _
  unfold IsText at r1
  exact ⟨b, off, e1, by rw [c1, r1]⟩
set_option maxRecDepth 100000 in
set_option maxHeartbeats 4000000 in
theorem hand_any (k n : Int) (vh vp : Value) (hv : List Int) (ps : List ByteArray) (w : World) (hh : SeqAt IsInt w.heap vh hv) (hp : TextsAt w.heap vp ps) (hi : ∀ x ∈ hv, inI x) :
    Calls Tryd.prog 26 #[.agg #[.int .i64 k, .int .i64 n], vh, vp] w (GiveHand w k n hv ps) := by
  have hl63 : hv.length ≤ 9223372036854775807 := let ⟨_, _, _, x, _⟩ := hh; x
  obtain ⟨p1, q1, rfl⟩ := seq_shape hh
  obtain ⟨p2, q2, rfl⟩ := seq_shape hp
  have HC0 : Hid (∀ wx, Keeps (w.alloc (.cells #[.int .i64 k, .int .i64 n] 23)) wx → wx.cell? ⟨w.heap.size, 0, none⟩ = some (.int .i64 k) ∧ wx.cell? ⟨w.heap.size, 1, none⟩ = some (.int .i64 n)) := fun wx hx => ⟨keeps_cell hx (World.cell?_alloc_new _ _ _ _), keeps_cell hx (World.cell?_alloc_new _ _ _ _)⟩
  have HI := Lib.hid hi
  have HH := Lib.hid hh
  have HP := Lib.hid hp
  clear hh hp hi
  cases hb : codeB k n with
  | false =>
    have HE : Hid (handE k n hv ps.length = 1) := by show _ = _; unfold handE; rw [hb]; rfl
    unfold GiveHand
    rw [HE.out]
    go_enter Tryd.func26, Tryd.ntmps26
    go_wp2_with fail
    refine Calls.mono (maycode_any k n _) ?_
    rintro e w1 ⟨rfl, hk1⟩
    have HK1 := Lib.hid hk1
    clear hk1
    rw [hb]
    go_wp2
    go_ret2
    refine ⟨_, rfl, ?_, (kal w _).trans HK1.out⟩
    intro h; cases h
  | true =>
    by_cases hlen : hv.length = ps.length
    · have HE : Hid (handE k n hv ps.length = if goodH n hv then (if (hv.length : Int) < k then 54 else 0) else 1) := by show _ = _; unfold handE; rw [hb, decide_eq_true hlen]; rfl
      have HLN := Lib.hid hlen
      have hnn := codeB_true.1 hb
      unfold GiveHand
      generalize handE k n hv ps.length = E at *
      have hq : ((hv.length : Int) != (ps.length : Int)) = false := by rw [bne_eq_false_iff_eq]; omega
      have hq2 : (hv.length != ps.length) = false := by rw [bne_eq_false_iff_eq]; omega
      clear hlen
      go_enter Tryd.func26, Tryd.ntmps26
      go_wp2_with fail
      refine Calls.mono (maycode_any k n _) ?_
      rintro e w1 ⟨rfl, hk1⟩
      have HK1 := Lib.hid hk1
      clear hk1
      rw [hb]
      have hmm := @run_makeMap Tryd.prog
      go_wp2_with fail
      have hB0 : w.heap.size + 1 ≤ w1.heap.size := by have := HK1.out.size; simpa using this
      go_loopw [26] (fun i wr => ∃ j : Nat, j ≤ hv.length ∧ i = .int .i64 j ∧ goodH n (hv.take j) = true ∧ Hid (HeldM wr w1.heap.size j (heldF (hv.take j) (ps.take j))) ∧ Hid (Keeps w1 wr)) (fun i _ => hv.length - (intOf i).toNat)
      case atStart => exact ⟨0, by omega, rfl, by unfold goodH; simp, HeldM.new w1, kal w1 _⟩
      case round =>
        obtain ⟨j, hj, rfl, hg, hM, hK⟩ := hrel
        obtain ⟨wo, rfl⟩ : ∃ wo : World, wo = wr := ⟨_, rfl⟩
        obtain ⟨c0, c1⟩ := HC0.out wo (HK1.out.trans hK.out)
        have HKW : Hid (Keeps w wo) := (kal w _).trans (HK1.out.trans hK.out)
        have hzz := hM.out.lt
        by_cases hlt : j < hv.length
        · have hlt64 : (j : Int) < (hv.length : Int) := by omega
          have hj0 : (0 : Int) ≤ (j : Int) := by omega
          obtain ⟨b1, o1, rfl, d1⟩ := int_cellP (SeqAt.keeps HH.out HKW.out) hlt
          have hjp : j < ps.length := by have := HLN.out; omega
          have hjp64 : (j : Int) < (ps.length : Int) := by omega
          obtain ⟨b2, o2, rfl, d2⟩ := text_cellH (SeqAt.keeps HP.out HKW.out) hjp
          have hz := HI.out _ (List.getElem_mem hlt)
          have HS := Lib.hid (lookup_none (l := hv.take j) (ps := ps.take j) (by rw [List.length_take, List.length_take]; omega) hv[j])
          have HBAD := Lib.hid (fun h => goodH_bad (n := n) (l := hv) (i := j) hlt h)
          have HSUC := Lib.hid (fun h1 h2 => goodH_succ (n := n) (l := hv) (i := j) hlt hg h1 h2)
          have HTK := Lib.hid (fun h1 x => heldF_take HLN.out hlt h1 x)
          generalize hv[j] = z at *
          generalize ps[j] = s at *
          have HKX : Hid (∀ s5, Keeps w (wo.alloc (.cells #[.string s5] 64))) := fun s5 => HKW.out.trans (kal wo _)
          have c5 : ∀ s5, (wo.alloc (.cells #[.string s5] 64)).cell? ⟨w.heap.size, 1, none⟩ = some (.int .i64 n) := fun s5 => keeps_cell (kal wo _) c1
          have c6 : ∀ s5, (wo.alloc (.cells #[.string s5] 64)).cell? ⟨b2, o2 + j, none⟩ = some (.string s) := fun s5 => keeps_cell (kal wo _) d2
          by_cases m1 : z ∈ hv.take j
          · have HE1 : Hid (E = 1) := by show _ = _; rw [HE.out, HBAD.out (.inl m1)]; rfl
            have hs1 : (heldF (hv.take j) (ps.take j) z).isSome = true := by rw [HS.out, decide_eq_true m1]
            go_wp2_with (at_lookup; refine wp_held_look rfl (.tmp 32) (.tmp 33) rfl w1.heap.size j _ rfl hM.out z rfl hz ?_; intro s5; rw [hs1])
            go_ret2
            refine ⟨_, by rw [HE1.out]; rfl, ?_, HKX.out _⟩
            intro h; rw [HE1.out] at h; cases h
          · have hs1 : (heldF (hv.take j) (ps.take j) z).isSome = false := by rw [HS.out, decide_eq_false m1]
            by_cases m2 : z < 0
            · have HE1 : Hid (E = 1) := by show _ = _; rw [HE.out, HBAD.out (.inr (.inl m2))]; rfl
              go_wp2_with (at_lookup; refine wp_held_look rfl (.tmp 32) (.tmp 33) rfl w1.heap.size j _ rfl hM.out z rfl hz ?_; intro s5; rw [hs1])
              go_ret2
              refine ⟨_, by rw [HE1.out]; rfl, ?_, HKX.out _⟩
              intro h; rw [HE1.out] at h; cases h
            · by_cases m3 : n ≤ z
              · have HE1 : Hid (E = 1) := by show _ = _; rw [HE.out, HBAD.out (.inr (.inr m3))]; rfl
                have m4 : ¬ z < n := by omega
                go_wp2_with (at_lookup; refine wp_held_look rfl (.tmp 32) (.tmp 33) rfl w1.heap.size j _ rfl hM.out z rfl hz ?_; intro s5; rw [hs1])
                go_ret2
                refine ⟨_, by rw [HE1.out]; rfl, ?_, HKX.out _⟩
                intro h; rw [HE1.out] at h; cases h
              · have m4 : z < n := by omega
                have hnew : heldF (hv.take j) (ps.take j) z = none := Option.isNone_iff_eq_none.1 (Option.isSome_eq_false_iff.1 hs1)
                have HMX : Hid (∀ s5, HeldM (wo.alloc (.cells #[.string s5] 64)) w1.heap.size j (heldF (hv.take j) (ps.take j))) := fun s5 => hM.out.keeps (kal wo _)
                have hg2 := HSUC.out m1 ⟨by omega, m4⟩
                have HTK2 := Lib.hid (HTK.out m1)
                go_wp2_with (first | (at_lookup; refine wp_held_look rfl (.tmp 32) (.tmp 33) rfl w1.heap.size j _ rfl hM.out z rfl hz ?_; intro s5; rw [hs1]) | (at_mapUpdate; refine wp_held_put rfl (.tmp 48) (.tmp 49) (.tmp 54) rfl w1.heap.size j _ rfl (HMX.out _) (by omega) z rfl hz hnew s rfl ?_; intro w7 hm7 hc7; have HM7 := Lib.hid (hm7.congr HTK2.out); have HK7 := Lib.hid (put_keeps hK.out hc7); clear hm7 hc7))
                exact ⟨⟨j + 1, by omega, by go_num, hg2, HM7, HK7⟩, by simp [intOf]; omega⟩
        · obtain rfl : j = hv.length := by omega
          rw [List.take_length] at hg
          rw [hg, if_pos rfl] at HE
          have HMM : Hid (HeldM wo w1.heap.size hv.length (heldF hv ps)) := by
            have := hM.out
            rwa [List.take_length, HLN.out, List.take_length, ← HLN.out] at this
          by_cases hk : (hv.length : Int) < k
          · rw [if_pos hk] at HE
            go_wp2_with (at_len; refine wp_held_len rfl (.tmp 56) rfl w1.heap.size hv.length _ rfl HMM.out ?_)
            go_ret2
            refine ⟨_, by rw [HE.out]; rfl, ?_, HKW.out⟩
            intro h; rw [HE.out] at h; cases h
          · rw [if_neg hk] at HE
            go_wp2_with (at_len; refine wp_held_len rfl (.tmp 56) rfl w1.heap.size hv.length _ rfl HMM.out ?_)
            go_ret2
            exact ⟨_, by rw [HE.out]; rfl, fun _ => ⟨_, by omega, rfl, HMM.out⟩, HKW.out⟩
    · have HE : Hid (handE k n hv ps.length = 1) := by show _ = _; unfold handE; rw [hb, decide_eq_false hlen]; rfl
      unfold GiveHand
      rw [HE.out]
      have hq : ((hv.length : Int) != (ps.length : Int)) = true := by rw [bne_iff_ne]; omega
      have hq2 : (hv.length != ps.length) = true := by rw [bne_iff_ne]; omega
      go_enter Tryd.func26, Tryd.ntmps26
      go_wp2_with fail
      refine Calls.mono (maycode_any k n _) ?_
      rintro e w1 ⟨rfl, hk1⟩
      have HK1 := Lib.hid hk1
      clear hk1
      rw [hb]
      go_wp2
      go_ret2
      refine ⟨_, rfl, ?_, (kal w _).trans HK1.out⟩
      intro h; cases h
end Go.Proofs.YtllfhaocdknejaaDoor
