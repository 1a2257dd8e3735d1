/- The walk of the law PackMore. -/
import Derived.Test.YteandjophamipaaLawLong
namespace Go.Proofs.Yteandjophamipaa
open Go.RowKit
def textsV (l : List ByteArray) : List Value := l.map Value.string
theorem textsV_length (l : List ByteArray) : (textsV l).length = l.length := by unfold textsV; rw [List.length_map]
theorem textsV_one (l : List ByteArray) : ∀ u ∈ textsV l, u.oneCell' = true := fun u hu => by
  unfold textsV at hu
  obtain ⟨c, _, rfl⟩ := List.mem_map.1 hu
  rfl
theorem textsV_at {w : World} {b off c : Nat} {l : List ByteArray} (s : TextsAt w.heap (.slice (some ⟨b, off, none⟩) l.length c) l) : ∀ j (h : j < (textsV l).length), w.cell? ⟨b, off + j, none⟩ = some (textsV l)[j] := fun j h => by
  have hj : j < l.length := by rwa [textsV_length] at h
  obtain ⟨b', off', c', u, e5, d1, r1⟩ := seq_cell s hj
  injection e5 with e6 e7 e8
  injection e6 with e6
  injection e6 with e9 e10 e11
  subst e9 e10
  unfold IsText at r1
  subst r1
  rw [d1]
  simp [textsV]
theorem texts_own {w : World} {base : Nat} {v : Value} {l : List ByteArray} (h : w.ownsRow base 9 1 v l.length (textsV l)) : OwnSeq base 9 IsText w v l :=
  ⟨textsV l, by rw [textsV_length]; exact h, textsV_length l, fun i h h' => by simp [textsV]; rfl⟩
theorem texts_addr {h : Array Obj} {p : Option Addr} {n q : Nat} {l : List ByteArray} (s : TextsAt h (.slice p n q) l) (h1 : 0 < l.length) : ∃ b off, p = some ⟨b, off, none⟩ := by
  obtain ⟨a, c, e, _, hel⟩ := s
  injection e with e1 e2 e3
  obtain ⟨b, off, u, e4, _, _⟩ := hel 0 h1
  exact ⟨b, off, e1.trans e4⟩
theorem total_small {l : List ByteArray} (h : mayP l = true) : total l ≤ 16384 := by
  rcases (mayP_iff.1 h).2.2.2 with h2 | h2
  · obtain ⟨c, rfl⟩ := List.length_eq_one_iff.1 h2
    have := ((mayP_iff.1 h).2.1 c (List.mem_singleton.2 rfl)).2
    show (List.map _ _).sum ≤ _
    simp; exact this
  · omega
theorem hasT_snoc (l : List ByteArray) (x c : ByteArray) : hasT (l ++ [x]) c = (hasT l c || decide (x = c)) := by unfold hasT; simp
set_option maxRecDepth 100000 in
set_option maxHeartbeats 4000000 in
theorem pmore_any (va : Value) (l : List ByteArray) (c : ByteArray) (w : World) (ha : TextsAt w.heap va l) (_ : c.size ≤ maxLen) : Calls Try.prog 8 #[va, .string c] w fun e w' => e = .returned (.bool true) ∧ Keeps w w' := by
  obtain ⟨pa, qa, rfl⟩ := seq_shape ha
  have HA := Lib.hid ha
  clear ha
  go_enter Try.func8, Try.ntmps8
  go_wp2_with fail
  refine Calls.mono (pworks_any _) ?_
  rintro e w1 ⟨rfl, hk⟩
  have HA := Lib.hid (SeqAt.keeps HA.out hk)
  have HK := Lib.hid hk
  clear hk
  go_wp2_with fail
  refine Calls.mono (pwide_any _ l _ HA.out) ?_
  rintro e w' ⟨z, rfl, rfl⟩
  cases z with
  | true =>
    go_wp2_with fail
    refine Calls.mono (pworks_any _) ?_
    rintro e w2 ⟨rfl, hk⟩
    go_wp2_with fail
    go_ret
    exact ⟨rfl, HK.out.trans hk⟩
  | false =>
  by_cases h4 : 40000 < c.size
  · have g0 : decide ((40000 : Int) < (c.size : Int)) = true := decide_eq_true (by omega)
    go_wp2_with fail
    refine Calls.mono (pworks_any _) ?_
    rintro e w2 ⟨rfl, hk⟩
    go_wp2_with fail
    go_ret
    exact ⟨rfl, HK.out.trans hk⟩
  have g0 : decide ((40000 : Int) < (c.size : Int)) = false := decide_eq_false (by omega)
  cases hm : mayP l with
  | false =>
    have HM := Lib.hid hm
    clear hm
    go_wp2_with fail
    refine Calls.mono (pmay_e _ l _ HA.out _ HM.out) ?_
    rintro e w2 ⟨rfl, hk⟩
    have HK := Lib.hid (HK.out.trans hk)
    clear hk
    go_wp2_with fail
    refine Calls.mono (pworks_any _) ?_
    rintro e w3 ⟨rfl, hk⟩
    go_wp2_with fail
    go_ret
    exact ⟨rfl, HK.out.trans hk⟩
  | true =>
    have HM := Lib.hid hm
    have hl1 : 1 ≤ l.length := (mayP_iff.1 hm).1
    have hla : l.length ≤ 4096 := mayP_len hm
    have hta : total l ≤ 16384 := total_small hm
    have HSA : Hid (∀ k, k < l.length → (atP l k).size ≤ 16384) := fun k hk => (mayP_size hm hk).2
    have HMM := Lib.hid (mayP_more hm c)
    clear hm
    go_wp2_with fail
    refine Calls.mono (pmay_e _ l _ HA.out _ HM.out) ?_
    rintro e w2 ⟨rfl, hk⟩
    have HA := Lib.hid (SeqAt.keeps HA.out hk)
    have HK := Lib.hid (HK.out.trans hk)
    clear hk
    go_wp2_with fail
    go_loopw [5, 6, 7] (fun s t i wr => ∃ (k : Nat) (z : Bool), k ≤ l.length ∧ i = .int .i64 k ∧ t = .int .i64 ((c.size + total (l.take k) : Nat) : Int) ∧ s = .bool z ∧ Hid (z = !hasT (l.take k) c) ∧ wr = w2) (fun _ _ i _ => l.length - (intOf i).toNat)
    case atStart => exact ⟨0, true, by omega, rfl, rfl, rfl, rfl, rfl⟩
    case round =>
      obtain ⟨k, z, hk, rfl, rfl, rfl, hz, rfl⟩ := hrel
      by_cases hlt : k < l.length
      · have hlt64 : (k : Int) < (l.length : Int) := by omega
        have hk0 : (0 : Int) ≤ (k : Int) := by omega
        obtain ⟨b1, o1, c1, u1, e1, d1, r1⟩ := seq_cell HA.out hlt
        injection e1 with e3 e4 e5
        subst e3 e5
        unfold IsText at r1
        subst r1
        rw [← atP_get hlt] at d1
        have HT : Hid (total (l.take (k + 1)) = total (l.take k) + (atP l k).size) := total_take hlt
        have HH : Hid (hasT (l.take (k + 1)) c = (hasT (l.take k) c || decide (atP l k = c))) := by show _ = _; rw [take_snoc hlt, hasT_snoc]
        have hs := HSA.out k hlt
        have htk : total (l.take k) ≤ total l := total_le l k
        clear e4
        generalize atP l k = x at *
        generalize total (l.take k) = t at *
        cases z with
        | true =>
          by_cases hxy : x = c
          · have g2 : (x.toList == c.toList) = true := by rw [txt_eq]; exact decide_eq_true hxy
            have HZ : Hid (false = !hasT (l.take (k + 1)) c) := by show _ = _; rw [HH.out, decide_eq_true hxy]; simp
            clear hxy
            go_wp2_with fail
            exact ⟨⟨k + 1, false, by omega, by go_num, by rw [HT.out]; go_num, rfl, HZ, trivial⟩, by simp [intOf]; omega⟩
          · have g2 : (x.toList == c.toList) = false := by rw [txt_eq]; exact decide_eq_false hxy
            have HZ : Hid (true = !hasT (l.take (k + 1)) c) := by show _ = _; rw [HH.out, decide_eq_false hxy, Bool.or_false]; exact hz.out
            clear hxy
            go_wp2_with fail
            exact ⟨⟨k + 1, true, by omega, by go_num, by rw [HT.out]; go_num, rfl, HZ, trivial⟩, by simp [intOf]; omega⟩
        | false =>
          have HZ : Hid (false = !hasT (l.take (k + 1)) c) := by
            have : hasT (l.take k) c = true := by have := hz.out; revert this; cases hasT (l.take k) c <;> simp
            show _ = _; rw [HH.out, this]; rfl
          go_wp2_with fail
          exact ⟨⟨k + 1, false, by omega, by go_num, by rw [HT.out]; go_num, rfl, HZ, trivial⟩, by simp [intOf]; omega⟩
      · obtain rfl : k = l.length := by omega
        rw [List.take_length] at hz ⊢
        have HMM : Hid (mayP (l ++ [c]) = (((decide (1 ≤ c.size) && decide (c.size ≤ 16384)) && z) && decide (c.size + total l ≤ 4096))) := by show _ = _; rw [HMM.out, ← hz.out]
        obtain ⟨b0, o0, rfl⟩ := texts_addr HA.out (by omega)
        have HCA := Lib.hid (textsV_at (HA.out.al (.cells #[] 9)))
        have hty : c.size + total l ≤ 60000 := by omega
        have HU0 := Lib.hid (own_empty wr wr.heap.size 9 (Nat.le_refl _))
        generalize total l = t at *
        clear hz hta
        by_cases hA : 1 ≤ c.size
        case neg =>
          have gA : decide ((1 : Int) ≤ (c.size : Int)) = false := decide_eq_false (by omega)
          have gA' : decide (1 ≤ c.size) = false := decide_eq_false (by omega)
          have gA2 : decide (0 < c.size) = false := decide_eq_false (by omega)
          have HB : Hid (mayP (l ++ [c]) = false) := by show _ = _; rw [HMM.out]; rw [gA']; rfl
          clear HMM
          go_wp2_with (at_builtin; refine wp_apps elText rfl _ _ rfl wr.heap.size _ [] rfl HU0.out b0 o0 l.length qa (textsV l) rfl (textsV_length l) HCA.out (textsV_one l) ?a1 ?b1 ?_)
          case a1 => rw [textsV_length]; simp; omega
          case b1 => simp
          intro v' w5 hown hchg
          have HU5 : Hid (w5.ownsRow wr.heap.size 9 1 v' l.length (textsV l)) := by show World.ownsRow _ _ _ _ _ _ _; have h := hown; rw [textsV_length] at h; simpa using h
          have hc5 : Chg (fun k => wr.heap.size ≤ k) wr w5 := ((Chg.refl _ wr).alloc _).trans (hchg.mono fun k _ h => (own_block HU0.out k h).1)
          have hs5 := hc5.size
          have HC5 := Lib.hid hc5
          clear hown hchg hc5
          go_wp2_with (at_builtin; refine wp_app1 elText rfl _ _ rfl wr.heap.size v' (textsV l) rfl (by rw [textsV_length]; exact HU5.out.alloc _) _ (.string c) rfl ?c1 rfl ?d1 ?e1 ?_)
          case c1 => first | exact World.cell?_alloc_new _ _ _ _ | simp [go_sem]
          case d1 => rw [textsV_length]; omega
          case e1 => simp; omega
          intro v8 w6 hown hchg
          have hc6 : Chg (fun k => wr.heap.size ≤ k) w5 w6 := ((Chg.refl _ w5).alloc _).trans (hchg.mono fun k _ h => (own_block HU5.out k h).1)
          have HO6 : Hid (OwnSeq wr.heap.size 9 IsText w6 v8 (l ++ [c])) := OwnSeq.push (R := IsText) (textsV_length l) (fun i h h' => by simp [textsV]; rfl) hown (fun _ _ _ x => x) rfl
          have HK6 : Hid (Keeps w w6) := HK.out.then (Chg.kept (HC5.out.trans hc6) (Nat.le_refl _)) HK.out.size
          have HT6 : Hid (SeqIn (wr.heap.size ≤ ·) 9 IsText w6.heap v8 (l ++ [c])) := HO6.out.seq (by simp; omega)
          clear hown hchg hc6
          go_wp2_with fail
          refine Calls.mono (pmay_e _ (l ++ [c]) _ (SeqIn.at_ HT6.out) _ HB.out) ?_
          rintro e w7 ⟨rfl, hk⟩
          have HK7 := Lib.hid (HK6.out.trans hk)
          clear hk
          go_wp2_with fail
          go_ret
          exact ⟨rfl, HK7.out⟩
        have gA : decide ((1 : Int) ≤ (c.size : Int)) = true := decide_eq_true (by omega)
        have gA' : decide (1 ≤ c.size) = true := decide_eq_true hA
        have gA2 : decide (0 < c.size) = true := decide_eq_true (by omega)
        by_cases hB : c.size ≤ 16384
        case neg =>
          have gB : decide ((c.size : Int) ≤ 16384) = false := decide_eq_false (by omega)
          have gB' : decide (c.size ≤ 16384) = false := decide_eq_false (by omega)
          have HB : Hid (mayP (l ++ [c]) = false) := by show _ = _; rw [HMM.out]; rw [gA', gB']; rfl
          clear HMM
          go_wp2_with (at_builtin; refine wp_apps elText rfl _ _ rfl wr.heap.size _ [] rfl HU0.out b0 o0 l.length qa (textsV l) rfl (textsV_length l) HCA.out (textsV_one l) ?a2 ?b2 ?_)
          case a2 => rw [textsV_length]; simp; omega
          case b2 => simp
          intro v' w5 hown hchg
          have HU5 : Hid (w5.ownsRow wr.heap.size 9 1 v' l.length (textsV l)) := by show World.ownsRow _ _ _ _ _ _ _; have h := hown; rw [textsV_length] at h; simpa using h
          have hc5 : Chg (fun k => wr.heap.size ≤ k) wr w5 := ((Chg.refl _ wr).alloc _).trans (hchg.mono fun k _ h => (own_block HU0.out k h).1)
          have hs5 := hc5.size
          have HC5 := Lib.hid hc5
          clear hown hchg hc5
          go_wp2_with (at_builtin; refine wp_app1 elText rfl _ _ rfl wr.heap.size v' (textsV l) rfl (by rw [textsV_length]; exact HU5.out.alloc _) _ (.string c) rfl ?c2 rfl ?d2 ?e2 ?_)
          case c2 => first | exact World.cell?_alloc_new _ _ _ _ | simp [go_sem]
          case d2 => rw [textsV_length]; omega
          case e2 => simp; omega
          intro v8 w6 hown hchg
          have hc6 : Chg (fun k => wr.heap.size ≤ k) w5 w6 := ((Chg.refl _ w5).alloc _).trans (hchg.mono fun k _ h => (own_block HU5.out k h).1)
          have HO6 : Hid (OwnSeq wr.heap.size 9 IsText w6 v8 (l ++ [c])) := OwnSeq.push (R := IsText) (textsV_length l) (fun i h h' => by simp [textsV]; rfl) hown (fun _ _ _ x => x) rfl
          have HK6 : Hid (Keeps w w6) := HK.out.then (Chg.kept (HC5.out.trans hc6) (Nat.le_refl _)) HK.out.size
          have HT6 : Hid (SeqIn (wr.heap.size ≤ ·) 9 IsText w6.heap v8 (l ++ [c])) := HO6.out.seq (by simp; omega)
          clear hown hchg hc6
          go_wp2_with fail
          refine Calls.mono (pmay_e _ (l ++ [c]) _ (SeqIn.at_ HT6.out) _ HB.out) ?_
          rintro e w7 ⟨rfl, hk⟩
          have HK7 := Lib.hid (HK6.out.trans hk)
          clear hk
          go_wp2_with fail
          go_ret
          exact ⟨rfl, HK7.out⟩
        have gB : decide ((c.size : Int) ≤ 16384) = true := decide_eq_true (by omega)
        have gB' : decide (c.size ≤ 16384) = true := decide_eq_true hB
        cases z with
        | false =>
          
          have HB : Hid (mayP (l ++ [c]) = false) := by show _ = _; rw [HMM.out]; rw [gA', gB']; rfl
          clear HMM
          go_wp2_with (at_builtin; refine wp_apps elText rfl _ _ rfl wr.heap.size _ [] rfl HU0.out b0 o0 l.length qa (textsV l) rfl (textsV_length l) HCA.out (textsV_one l) ?a3 ?b3 ?_)
          case a3 => rw [textsV_length]; simp; omega
          case b3 => simp
          intro v' w5 hown hchg
          have HU5 : Hid (w5.ownsRow wr.heap.size 9 1 v' l.length (textsV l)) := by show World.ownsRow _ _ _ _ _ _ _; have h := hown; rw [textsV_length] at h; simpa using h
          have hc5 : Chg (fun k => wr.heap.size ≤ k) wr w5 := ((Chg.refl _ wr).alloc _).trans (hchg.mono fun k _ h => (own_block HU0.out k h).1)
          have hs5 := hc5.size
          have HC5 := Lib.hid hc5
          clear hown hchg hc5
          go_wp2_with (at_builtin; refine wp_app1 elText rfl _ _ rfl wr.heap.size v' (textsV l) rfl (by rw [textsV_length]; exact HU5.out.alloc _) _ (.string c) rfl ?c3 rfl ?d3 ?e3 ?_)
          case c3 => first | exact World.cell?_alloc_new _ _ _ _ | simp [go_sem]
          case d3 => rw [textsV_length]; omega
          case e3 => simp; omega
          intro v8 w6 hown hchg
          have hc6 : Chg (fun k => wr.heap.size ≤ k) w5 w6 := ((Chg.refl _ w5).alloc _).trans (hchg.mono fun k _ h => (own_block HU5.out k h).1)
          have HO6 : Hid (OwnSeq wr.heap.size 9 IsText w6 v8 (l ++ [c])) := OwnSeq.push (R := IsText) (textsV_length l) (fun i h h' => by simp [textsV]; rfl) hown (fun _ _ _ x => x) rfl
          have HK6 : Hid (Keeps w w6) := HK.out.then (Chg.kept (HC5.out.trans hc6) (Nat.le_refl _)) HK.out.size
          have HT6 : Hid (SeqIn (wr.heap.size ≤ ·) 9 IsText w6.heap v8 (l ++ [c])) := HO6.out.seq (by simp; omega)
          clear hown hchg hc6
          go_wp2_with fail
          refine Calls.mono (pmay_e _ (l ++ [c]) _ (SeqIn.at_ HT6.out) _ HB.out) ?_
          rintro e w7 ⟨rfl, hk⟩
          have HK7 := Lib.hid (HK6.out.trans hk)
          clear hk
          go_wp2_with fail
          go_ret
          exact ⟨rfl, HK7.out⟩
        | true =>
          by_cases hD : c.size + t ≤ 4096
          case neg =>
            have gD : decide ((c.size : Int) + (t : Int) ≤ 4096) = false := decide_eq_false (by omega)
            have gD' : decide (c.size + t ≤ 4096) = false := decide_eq_false (by omega)
            have HB : Hid (mayP (l ++ [c]) = false) := by show _ = _; rw [HMM.out]; rw [gA', gB', gD']; rfl
            clear HMM
            go_wp2_with (at_builtin; refine wp_apps elText rfl _ _ rfl wr.heap.size _ [] rfl HU0.out b0 o0 l.length qa (textsV l) rfl (textsV_length l) HCA.out (textsV_one l) ?a4 ?b4 ?_)
            case a4 => rw [textsV_length]; simp; omega
            case b4 => simp
            intro v' w5 hown hchg
            have HU5 : Hid (w5.ownsRow wr.heap.size 9 1 v' l.length (textsV l)) := by show World.ownsRow _ _ _ _ _ _ _; have h := hown; rw [textsV_length] at h; simpa using h
            have hc5 : Chg (fun k => wr.heap.size ≤ k) wr w5 := ((Chg.refl _ wr).alloc _).trans (hchg.mono fun k _ h => (own_block HU0.out k h).1)
            have hs5 := hc5.size
            have HC5 := Lib.hid hc5
            clear hown hchg hc5
            go_wp2_with (at_builtin; refine wp_app1 elText rfl _ _ rfl wr.heap.size v' (textsV l) rfl (by rw [textsV_length]; exact HU5.out.alloc _) _ (.string c) rfl ?c4 rfl ?d4 ?e4 ?_)
            case c4 => first | exact World.cell?_alloc_new _ _ _ _ | simp [go_sem]
            case d4 => rw [textsV_length]; omega
            case e4 => simp; omega
            intro v8 w6 hown hchg
            have hc6 : Chg (fun k => wr.heap.size ≤ k) w5 w6 := ((Chg.refl _ w5).alloc _).trans (hchg.mono fun k _ h => (own_block HU5.out k h).1)
            have HO6 : Hid (OwnSeq wr.heap.size 9 IsText w6 v8 (l ++ [c])) := OwnSeq.push (R := IsText) (textsV_length l) (fun i h h' => by simp [textsV]; rfl) hown (fun _ _ _ x => x) rfl
            have HK6 : Hid (Keeps w w6) := HK.out.then (Chg.kept (HC5.out.trans hc6) (Nat.le_refl _)) HK.out.size
            have HT6 : Hid (SeqIn (wr.heap.size ≤ ·) 9 IsText w6.heap v8 (l ++ [c])) := HO6.out.seq (by simp; omega)
            clear hown hchg hc6
            go_wp2_with fail
            refine Calls.mono (pmay_e _ (l ++ [c]) _ (SeqIn.at_ HT6.out) _ HB.out) ?_
            rintro e w7 ⟨rfl, hk⟩
            have HK7 := Lib.hid (HK6.out.trans hk)
            clear hk
            go_wp2_with fail
            go_ret
            exact ⟨rfl, HK7.out⟩
          have gD : decide ((c.size : Int) + (t : Int) ≤ 4096) = true := decide_eq_true (by omega)
          have gD' : decide (c.size + t ≤ 4096) = true := decide_eq_true hD
          
          have HB : Hid (mayP (l ++ [c]) = true) := by show _ = _; rw [HMM.out]; rw [gA', gB', gD']; rfl
          clear HMM
          go_wp2_with (at_builtin; refine wp_apps elText rfl _ _ rfl wr.heap.size _ [] rfl HU0.out b0 o0 l.length qa (textsV l) rfl (textsV_length l) HCA.out (textsV_one l) ?a5 ?b5 ?_)
          case a5 => rw [textsV_length]; simp; omega
          case b5 => simp
          intro v' w5 hown hchg
          have HU5 : Hid (w5.ownsRow wr.heap.size 9 1 v' l.length (textsV l)) := by show World.ownsRow _ _ _ _ _ _ _; have h := hown; rw [textsV_length] at h; simpa using h
          have hc5 : Chg (fun k => wr.heap.size ≤ k) wr w5 := ((Chg.refl _ wr).alloc _).trans (hchg.mono fun k _ h => (own_block HU0.out k h).1)
          have hs5 := hc5.size
          have HC5 := Lib.hid hc5
          clear hown hchg hc5
          go_wp2_with (at_builtin; refine wp_app1 elText rfl _ _ rfl wr.heap.size v' (textsV l) rfl (by rw [textsV_length]; exact HU5.out.alloc _) _ (.string c) rfl ?c5 rfl ?d5 ?e5 ?_)
          case c5 => first | exact World.cell?_alloc_new _ _ _ _ | simp [go_sem]
          case d5 => rw [textsV_length]; omega
          case e5 => simp; omega
          intro v8 w6 hown hchg
          have hc6 : Chg (fun k => wr.heap.size ≤ k) w5 w6 := ((Chg.refl _ w5).alloc _).trans (hchg.mono fun k _ h => (own_block HU5.out k h).1)
          have HO6 : Hid (OwnSeq wr.heap.size 9 IsText w6 v8 (l ++ [c])) := OwnSeq.push (R := IsText) (textsV_length l) (fun i h h' => by simp [textsV]; rfl) hown (fun _ _ _ x => x) rfl
          have HK6 : Hid (Keeps w w6) := HK.out.then (Chg.kept (HC5.out.trans hc6) (Nat.le_refl _)) HK.out.size
          have HT6 : Hid (SeqIn (wr.heap.size ≤ ·) 9 IsText w6.heap v8 (l ++ [c])) := HO6.out.seq (by simp; omega)
          clear hown hchg hc6
          go_wp2_with fail
          refine Calls.mono (pmay_e _ (l ++ [c]) _ (SeqIn.at_ HT6.out) _ HB.out) ?_
          rintro e w7 ⟨rfl, hk⟩
          have HK7 := Lib.hid (HK6.out.trans hk)
          clear hk
          go_wp2_with fail
          go_ret
          exact ⟨rfl, HK7.out⟩
end Go.Proofs.Yteandjophamipaa
