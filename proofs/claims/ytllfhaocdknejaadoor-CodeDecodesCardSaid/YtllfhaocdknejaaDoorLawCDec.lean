/- The walks of the reference's Decode and Rebuild. -/
import Derived.Test.YtllfhaocdknejaaDoorCodeRf
import Derived.Test.YtllfhaocdknejaaDoorRefSolve5
import Derived.Test.YtllfhaocdknejaaDoorCodeFd
namespace Go.Proofs.YtllfhaocdknejaaDoor
open Go.RowKit
attribute [local go_sem ↓] Go.wp_at_zero Go.wp_at_succ
theorem keeps_ownD {w4 w w' : World} {E : TypeId} {v : Value} {n : Nat} {us : List Value} (hk : Keeps w4 w) (h : w.ownsRow w4.heap.size E 1 v n us) (c : Chg (fun b => v.ownBlock = some b) w w') : Keeps w4 w' :=
  (hk.chg.trans (c.mono fun b _ hb => (own_block h b hb).1)).keeps fun b hb x => by omega
theorem nat12' {w : World} {b i : Nat} {v : Value} (h : w.cell? ⟨b, i, none⟩ = some v) : ∀ n, (w.drewN n).cell? ⟨b, i, none⟩ = some v := fun _ => h
theorem hand_bad {k n : Int} {hv : List Int} {m : Nat} (h : codeB k n = false ∨ hv.length ≠ m ∨ goodH n hv = false) : handE k n hv m = 1 := by
  unfold handE
  by_cases h1 : (codeB k n && decide (hv.length = m)) = true
  · rw [if_pos h1]
    rw [Bool.and_eq_true, decide_eq_true_iff] at h1
    rcases h with h | h | h
    · rw [h1.1] at h; cases h
    · exact absurd h1.2 h
    · rw [h]; rfl
  · rw [if_neg h1]
theorem rdec_even {K N : Nat} {hv : List Int} {ps : List ByteArray} (h : evenP ps = false) : rdecD K N hv ps = none := by unfold rdecD; rw [h]; rfl
theorem rdec_blob {K N : Nat} {hv : List Int} {ps : List ByteArray} (h : rblobL (firstM K N hv ps).flatten = none) : rdecD K N hv ps = none := by
  unfold rdecD; rw [h]; split <;> rfl
theorem rdec_no {K N : Nat} {hv : List Int} {ps : List ByteArray} {d : List UInt8} (h : rblobL (firstM K N hv ps).flatten = some d) (h2 : haveB (encM K N d) hv ps = false) : rdecD K N hv ps = none := by
  unfold rdecD; rw [h]
  simp only [h2]
  split <;> rfl
theorem rdec_yes {K N : Nat} {hv : List Int} {ps : List ByteArray} {d : List UInt8} (h0 : evenP ps = true) (h : rblobL (firstM K N hv ps).flatten = some d) (h2 : haveB (encM K N d) hv ps = true) : rdecD K N hv ps = some d := by
  unfold rdecD; rw [h0, if_pos rfl, h]
  simp only [h2, if_true]
/-- What has been put together behind j rows and b numbers of the next one. -/
def allV (F : List (List UInt8)) (j b : Nat) : List UInt8 := (F.take j).flatten ++ (F.getD j []).take b
theorem allV_next {F : List (List UInt8)} {j b : Nat} (h : b < (F.getD j []).length) : allV F j (b + 1) = allV F j b ++ [(F.getD j []).getD b 0] := by
  unfold allV
  rw [List.take_succ_eq_append_getElem h, List.append_assoc, List.getD_eq_getElem?_getD (l := F.getD j []), List.getElem?_eq_getElem h]; rfl
theorem allV_row {F : List (List UInt8)} {j b : Nat} (hj : j < F.length) (h : b = (F.getD j []).length) : allV F j b = allV F (j + 1) 0 := by
  unfold allV
  have e : F.getD j [] = F[j] := by rw [List.getD_eq_getElem?_getD, List.getElem?_eq_getElem hj]; rfl
  rw [h, List.take_length, List.take_zero, List.append_nil, flat_take hj, e]
theorem allV_end (F : List (List UInt8)) : allV F F.length 0 = F.flatten := by
  unfold allV
  rw [List.take_length, List.take_zero, List.append_nil]
theorem allV_len {F : List (List UInt8)} {s j b : Nat} (h : ∀ r ∈ F, r.length = s) (hj : j ≤ F.length) : (allV F j b).length ≤ s * j + s := by
  unfold allV
  rw [List.length_append, flat_le h hj, List.length_take]
  have : (F.getD j []).length ≤ s := by
    rw [List.getD_eq_getElem?_getD]
    rcases Nat.lt_or_ge j F.length with h' | h'
    · rw [List.getElem?_eq_getElem h']; exact Nat.le_of_eq (h _ (List.getElem_mem h'))
    · rw [List.getElem?_eq_none h']; simp
  omega
theorem byte_cellD {w : World} {v : Value} {W : List UInt8} (h : RowAt w.heap v W) {i : Nat} (hi : i < W.length) : ∃ b off c, v = .slice (some ⟨b, off, none⟩) W.length c ∧ w.cell? ⟨b, off + i, none⟩ = some (.int .u8 ((W.getD i 0).toNat : Int)) := by
  obtain ⟨b, off, c, u, e, c1, r1⟩ := seq_cell h hi
  unfold IsByte at r1
  exact ⟨b, off, c, e, by rw [c1, r1, List.getD_eq_getElem?_getD, List.getElem?_eq_getElem hi]; rfl⟩
theorem byte_cellG {w : World} {g n c : Nat} {W : List UInt8} (h : RowAt w.heap (.slice (some ⟨g, 0, none⟩) n c) W) {i : Nat} (hi : i < W.length) : w.cell? ⟨g, i, none⟩ = some (.int .u8 ((W.getD i 0).toNat : Int)) := by
  obtain ⟨b, off, c', e, d⟩ := byte_cellD h hi
  injection e with e1 _ _
  injection e1 with e1
  injection e1 with e2 e3
  subst e2 e3
  rw [Nat.zero_add] at d
  exact d
theorem rblob_not {W : List UInt8} (h : ¬ (8 ≤ W.length ∧ W.take 5 = [0, 0, 0, 0, 0] ∧ n3 W ≤ 32768 ∧ 8 + n3 W ≤ W.length)) : rblobL W = none := by unfold rblobL; rw [if_neg h]
theorem rblob_is {W : List UInt8} (h1 : 8 ≤ W.length) (h2 : W.take 5 = [0, 0, 0, 0, 0]) (h3 : n3 W ≤ 32768) (h4 : 8 + n3 W ≤ W.length) : rblobL W = some ((W.drop 8).take (n3 W)) := by unfold rblobL; rw [if_pos ⟨h1, h2, h3, h4⟩]
theorem row_mid {h : Array Obj} {g c n' c' : Nat} {W : List UInt8} (s : RowAt h (.slice (some ⟨g, 0, none⟩) W.length c) W) {k : Nat} (hk : 8 + k ≤ W.length) (hn : n' = k) : RowAt h (.slice (some ⟨g, 8, none⟩) n' c') ((W.drop 8).take k) := by
  obtain ⟨a, cap, e, hl, hel⟩ := s
  injection e with e1 e2 e3
  subst e1
  have hlt : ((W.drop 8).take k).length = n' := by rw [List.length_take, List.length_drop, hn]; omega
  refine ⟨_, c', by rw [hlt], by omega, fun i hi => ?_⟩
  rw [hlt] at hi
  obtain ⟨bi, oi, u, ei, ci, ri⟩ := hel (8 + i) (by omega)
  injection ei with ei
  injection ei with ei1 ei2
  subst ei1 ei2
  rw [Nat.zero_add] at ci
  exact ⟨_, _, u, rfl, ci, by rw [List.getElem_take, List.getElem_drop]; exact ri⟩
theorem nums_in {l : List Int} {i k : Nat} (hk : k < i) (hi : i ≤ l.length) : l[k]'(by omega) ∈ l.take i := by
  rw [List.mem_iff_getElem]
  exact ⟨k, by rw [List.length_take]; omega, by rw [List.getElem_take]⟩
theorem in_nums {l : List Int} {i : Nat} {x : Int} (h : x ∈ l.take i) : ∃ k, ∃ h : k < l.length, k < i ∧ l[k] = x := by
  obtain ⟨k, hk, e⟩ := List.mem_iff_getElem.1 h
  rw [List.length_take] at hk
  rw [List.getElem_take] at e
  exact ⟨k, by omega, by omega, e⟩
set_option maxRecDepth 100000 in
set_option maxHeartbeats 8000000 in
theorem rdecode_any (k n : Int) (vh vp : Value) (hv : List Int) (ps : List ByteArray) (w : World) (hps : ∀ p ∈ ps, p.size ≤ 40000) (hi : ∀ x ∈ hv, inI x) (hh : SeqAt IsInt w.heap vh hv) (hp : TextsAt w.heap vp ps) (ch : CapOk vh) :
    Calls Tryd.prog 10 #[.agg #[.int .i64 k, .int .i64 n], vh, vp] w fun e w' => e = .returned (.tuple #[.string (strB ((gotD k n hv ps).getD [])), .int .i64 (errD k n hv ps)]) ∧ Keeps w w' := by
  have hl63 : hv.length ≤ 9223372036854775807 := let ⟨_, _, _, x, _⟩ := hh; x
  have hp63 : ps.length ≤ 9223372036854775807 := let ⟨_, _, _, x, _⟩ := hp; x
  obtain ⟨p1, q1, rfl⟩ := seq_shape hh
  obtain ⟨p2, q2, rfl⟩ := seq_shape hp
  have ch1 : hv.length ≤ q1 := by
    obtain ⟨_, _, _, e1, h⟩ := ch
    injection e1 with e2 e3 e4
    omega
  have HC0 : Hid (∀ wx, Keeps (w.alloc (.cells #[.int .i64 k, .int .i64 n] 23)) wx → wx.cell? ⟨w.heap.size, 0, none⟩ = some (.int .i64 k) ∧ wx.cell? ⟨w.heap.size, 1, none⟩ = some (.int .i64 n)) := fun wx hx => ⟨keeps_cell hx (World.cell?_alloc_new _ _ _ _), keeps_cell hx (World.cell?_alloc_new _ _ _ _)⟩
  have HK0 := Lib.hid (kal w (.cells #[.int .i64 k, .int .i64 n] 23))
  have HH := Lib.hid (SeqAt.keeps hh HK0.out)
  have HP := Lib.hid (SeqAt.keeps hp HK0.out)
  have HPS := Lib.hid hps
  have HI := Lib.hid hi
  have HBAD : Hid (∀ e, handE k n hv ps.length = e → e ≠ 0 → strB ((gotD k n hv ps).getD []) = ⟨#[]⟩ ∧ errD k n hv ps = e) := fun e h h0 => by
    unfold gotD errD
    rw [if_neg (by rw [h]; exact h0), if_neg (by rw [h]; exact h0), h]
    exact ⟨rfl, rfl⟩
  have HGO : Hid (handE k n hv ps.length = 0 → strB ((gotD k n hv ps).getD []) = strB ((rdecD k.toNat n.toNat hv ps).getD []) ∧ errD k n hv ps = decE (rdecD k.toNat n.toNat hv ps)) := fun h => by
    obtain ⟨hc, hl, hg, hkv⟩ := hand_ok h
    obtain ⟨g1, g2, g3⟩ := codeB_true.1 hc
    have e := dec_same (K := k.toNat) (N := n.toNat) (hv := hv) (ps := ps) (by omega) (by omega) (by omega) (by rw [Int.toNat_of_nonneg (by omega)]; exact hg) hl (by omega)
    unfold gotD errD
    rw [if_pos h, if_pos h, e]
    exact ⟨rfl, rfl⟩
  generalize strB ((gotD k n hv ps).getD []) = S at *
  generalize errD k n hv ps = E at *
  clear hh hp hps hi
  cases hb : codeB k n with
  | false =>
    obtain ⟨x1, x2⟩ := HBAD.out 1 (hand_bad (.inl hb)) (by decide)
    have HB := Lib.hid hb
    have X1 := Lib.hid x1
    have X2 := Lib.hid x2
    clear hb x1 x2 HBAD HGO
    go_enter Tryd.func10, Tryd.ntmps10
    go_wp2_with fail
    refine Calls.mono (refmaycode_any k n _) ?_
    rintro e w1 ⟨rfl, hk1⟩
    rw [HB.out]
    have HK1 := Lib.hid hk1
    clear hk1
    go_wp2_with fail
    go_ret2
    exact ⟨by rw [X1.out, X2.out]; rfl, HK0.out.trans HK1.out⟩
  | true =>
    by_cases hlen : hv.length = ps.length
    · have HB := Lib.hid hb
      have HLEN := Lib.hid hlen
      obtain ⟨g1, g2, g3⟩ := codeB_true.1 hb
      have hq : ((hv.length : Int) != (ps.length : Int)) = false := by rw [bne_eq_false_iff_eq]; omega
      have hq2 : (hv.length != ps.length) = false := by rw [bne_eq_false_iff_eq]; omega
      have HH1 : Hid (goodH n hv = false → S = ⟨#[]⟩ ∧ E = 1) := fun h => HBAD.out 1 (hand_bad (.inr (.inr h))) (by decide)
      have HH2 : Hid (goodH n hv = true → (hv.length : Int) < k → S = ⟨#[]⟩ ∧ E = 54) := fun h h' => HBAD.out 54 (by unfold handE; rw [HB.out, decide_eq_true HLEN.out, Bool.and_self, if_pos rfl, if_pos h, if_pos h']) (by decide)
      have HH3 : Hid (goodH n hv = true → ¬ (hv.length : Int) < k → S = strB ((rdecD k.toNat n.toNat hv ps).getD []) ∧ E = decE (rdecD k.toNat n.toNat hv ps)) := fun h h' => HGO.out (by unfold handE; rw [HB.out, decide_eq_true HLEN.out, Bool.and_self, if_pos rfl, if_pos h, if_neg h'])
      clear hb HBAD HGO hlen
      go_enter Tryd.func10, Tryd.ntmps10
      go_wp2_with fail
      refine Calls.mono (refmaycode_any k n _) ?_
      rintro e w1 ⟨rfl, hk1⟩
      rw [HB.out]
      have HK1 := Lib.hid hk1
      have HHA := Lib.hid (SeqAt.keeps HH.out hk1)
      obtain ⟨c0, c1⟩ := HC0.out _ hk1
      have C0 := nat12' c0
      have C1 := nat12' c1
      clear hk1 c0 c1
      go_wp2_with fail
      go_loopw [8] (fun i wr => ∃ j : Nat, j ≤ hv.length ∧ i = .int .i64 j ∧ Hid (goodH n (hv.take j) = true) ∧ ∃ m, wr = w1.drewN m) (fun i _ => hv.length - (intOf i).toNat)
      case atStart => exact ⟨0, by omega, rfl, by show goodH n (hv.take 0) = true; unfold goodH; simp, 0, rfl⟩
      case round =>
        obtain ⟨j, hj, rfl, hg, m, rfl⟩ := hrel
        by_cases hlt : j < hv.length
        · -- <P1
          have hlt64 : (j : Int) < (hv.length : Int) := by omega
          have hj0 : (0 : Int) ≤ (j : Int) := by omega
          obtain ⟨b1, o1, rfl, d1⟩ := int_cellP HHA.out hlt
          have D1 := nat12' d1
          clear d1
          have HGB := Lib.hid (fun h => goodH_bad (n := n) (l := hv) (i := j) hlt h)
          have HGS := Lib.hid (fun h1 h2 => goodH_succ (n := n) (l := hv) (i := j) hlt hg.out h1 h2)
          have HIN := Lib.hid (fun q (hq : q < j) => nums_in (l := hv) hq (Nat.le_of_lt hlt))
          have HNI := Lib.hid (fun x => in_nums (l := hv) (i := j) (x := x))
          generalize hz : hv[j] = z at *
          have HZ := Lib.hid hz
          clear hz
          by_cases hz0 : z < 0
          · obtain ⟨x1, x2⟩ := HH1.out (HGB.out (.inr (.inl hz0)))
            have X1 := Lib.hid x1
            have X2 := Lib.hid x2
            clear x1 x2 HGB HGS HIN HNI
            go_wp2_with fail
            go_quiet (fail)
            go_wp2_with fail
            go_ret2
            exact ⟨by rw [X1.out, X2.out]; rfl, HK0.out.trans HK1.out⟩
          · by_cases hzn : n ≤ z
            · obtain ⟨x1, x2⟩ := HH1.out (HGB.out (.inr (.inr hzn)))
              have X1 := Lib.hid x1
              have X2 := Lib.hid x2
              clear x1 x2 HGB HGS HIN HNI
              go_wp2_with fail
              go_quiet (fail)
              go_wp2_with fail
              go_ret2
              exact ⟨by rw [X1.out, X2.out]; rfl, HK0.out.trans HK1.out⟩
            · have hzn' : z < n := by omega
              go_wp2_with fail
              go_quiet (fail)
              go_wp2_with fail
              go_loopw [9] (fun t wt => ∃ q : Nat, q ≤ j ∧ t = .int .i64 q ∧ Hid (∀ k (h : k < hv.length), k < q → hv[k] ≠ z) ∧ ∃ m, wt = w1.drewN m) (fun t _ => j - (intOf t).toNat)
              case atStart => exact ⟨0, by omega, rfl, fun k _ h => by omega, _, (by first | rfl | exact drew_two _ _ _)⟩
              case round =>
                obtain ⟨q, hq3, rfl, hne, m3, rfl⟩ := hrel
                by_cases hql : q < j
                · have hql64 : (q : Int) < (j : Int) := by omega
                  have hq0 : (0 : Int) ≤ (q : Int) := by omega
                  have hqh : q < hv.length := by omega
                  have hqh64 : (q : Int) < (hv.length : Int) := by omega
                  obtain ⟨b2, o2, e2, d2⟩ := int_cellP HHA.out hqh
                  injection e2 with e2
                  injection e2 with e3 e4
                  subst e3 e4
                  have D2 := nat12' d2
                  clear d2
                  have HQI := Lib.hid (HIN.out q hql)
                  have HNX : Hid (hv[q] ≠ z → ∀ k (h : k < hv.length), k < q + 1 → hv[k] ≠ z) := fun e k h hk => by
                    rcases Nat.lt_or_ge k q with h' | h'
                    · exact hne.out k h h'
                    · obtain rfl : k = q := by omega
                      exact e
                  generalize hv[q] = y at *
                  by_cases hyz : y = z
                  · obtain ⟨x1, x2⟩ := HH1.out (HGB.out (.inl (by rw [← hyz]; exact HQI.out)))
                    have X1 := Lib.hid x1
                    have X2 := Lib.hid x2
                    have q9 : (y == z) = true := by rw [beq_iff_eq]; exact hyz
                    clear x1 x2 HGB HGS HIN HNI hyz
                    go_wp2_with fail
                    go_quiet (fail)
                    go_wp2_with fail
                    go_ret2
                    exact ⟨by rw [X1.out, X2.out]; rfl, HK0.out.trans HK1.out⟩
                  · have HN2 := Lib.hid (HNX.out hyz)
                    have q9 : (y == z) = false := by rw [beq_eq_false_iff_ne]; exact hyz
                    clear HGB HGS HIN HNI HNX hyz
                    go_wp2_with fail
                    go_quiet (fail)
                    go_wp2_with fail
                    exact ⟨⟨q + 1, by omega, by go_num, HN2, _, (by first | rfl | exact drew_two _ _ _)⟩, by simp [intOf]; omega⟩
                · obtain rfl : q = j := by omega
                  have HG2 := Lib.hid (HGS.out (fun hm => by
                    obtain ⟨k, hk, hkq, e⟩ := HNI.out z hm
                    exact hne.out k hk hkq e) ⟨by omega, by omega⟩)
                  clear HGB HGS HIN HNI
                  go_wp2_with fail
                  exact ⟨⟨q + 1, by omega, by go_num, HG2, m3, rfl⟩, by simp [intOf]; omega⟩
          -- P1>
        · have ej : j = hv.length := by omega
          subst ej
          rw [List.take_length] at hg
          have HK2 : Hid (Keeps (w.alloc (.cells #[.int .i64 k, .int .i64 n] 23)) (w1.drewN m)) := HK1.out
          have HH2' : Hid (SeqAt IsInt (w1.drewN m).heap (.slice p1 hv.length q1) hv) := HHA.out
          generalize w1.drewN m = w2 at *
          obtain ⟨c0, c1⟩ := HC0.out _ HK2.out
          clear C0 C1 HHA HK1 hlt hj
          by_cases hkl : (hv.length : Int) < k
          · obtain ⟨x1, x2⟩ := HH2.out hg.out hkl
            have X1 := Lib.hid x1
            have X2 := Lib.hid x2
            clear x1 x2
            go_wp2_with fail
            go_ret2
            exact ⟨by rw [X1.out, X2.out]; rfl, HK0.out.trans HK2.out⟩
          · obtain ⟨x1, x2⟩ := HH3.out hg.out (by omega)
            obtain ⟨K, rfl⟩ := Int.eq_ofNat_of_zero_le (show 0 ≤ k by omega)
            obtain ⟨N, rfl⟩ := Int.eq_ofNat_of_zero_le (show 0 ≤ n by omega)
            rw [Int.toNat_natCast, Int.toNat_natCast] at x1 x2
            have hK1 : 1 ≤ K := by omega
            have hKN : K ≤ N := by omega
            have hN12 : N ≤ 12 := by omega
            have hkv : K ≤ hv.length := by omega
            have hkp : K ≤ ps.length := by have := HLEN.out; omega
            have HRN : Hid (rdecD K N hv ps = none → S = ⟨#[]⟩ ∧ E = 4) := fun h => by rw [x1, x2, h]; exact ⟨rfl, rfl⟩
            have HRS : Hid (∀ d, rdecD K N hv ps = some d → S = strB d ∧ E = 0) := fun d h => by rw [x1, x2, h]; exact ⟨rfl, rfl⟩
            have HOF : Hid (ofM (K : Int) (N : Int) = (matOf N K (codeAt K), 0)) := by show _ = _; unfold ofM; rw [HB.out]; rfl
            obtain ⟨t1, t2, t3, t4⟩ := rows_turn hK1 hKN hN12 hg.out hkv
            have HT1 := Lib.hid t1
            have HT2 := Lib.hid t2
            have HT3 := Lib.hid t3
            have HT4 := Lib.hid t4
            have HFL := Lib.hid (first_len (K := K) (N := N) (hv := hv) (ps := ps) hkv)
            have h0l : 0 < ps.length := by omega
            have h0l64 : (0 : Int) < (ps.length : Int) := by omega
            have HS0 := Lib.hid (size_head (ps := ps) h0l)
            have HEF := Lib.hid (fun j (hj : j < ps.length) => even_false (ps := ps) hj)
            have HET := Lib.hid (even_true (ps := ps))
            have HEO := Lib.hid (fun (h : evenP ps = true) j (hj : j < ps.length) => even_out h hj)
            have HFM : Hid (firstM K N hv ps = sprM (backM K N hv) (bytesP (ps.take K)) (sizeP ps)) := rfl
            have hszb : sizeP ps ≤ 40000 := by rw [HS0.out]; exact HPS.out _ (List.getElem_mem _)
            have HP2 := Lib.hid (SeqAt.keeps HP.out HK2.out)
            have HRE : Hid (evenP ps = false → rdecD K N hv ps = none) := rdec_even
            have HRB : Hid (rblobL (firstM K N hv ps).flatten = none → rdecD K N hv ps = none) := rdec_blob
            have HRM : Hid (∀ d, rblobL (firstM K N hv ps).flatten = some d → haveB (encM K N d) hv ps = false → rdecD K N hv ps = none) := fun d => rdec_no
            have HRY : Hid (∀ d, evenP ps = true → rblobL (firstM K N hv ps).flatten = some d → haveB (encM K N d) hv ps = true → rdecD K N hv ps = some d) := fun d => rdec_yes
            clear x1 x2 t1 t2 t3 t4 HH1 HH2 HH3
            obtain ⟨b2, o2, rfl, d0⟩ := text_cellH HP2.out h0l
            rw [Nat.add_zero] at d0
            generalize hs0 : ps[0]'h0l = s0 at *
            clear hs0
            generalize rdecD K N hv ps = R at *
            go_wp2_with fail
            rw [← HS0.out]
            clear HS0 d0
            generalize hsz : sizeP ps = sz at *
            have HSZ := Lib.hid hsz
            clear hsz
            go_loopw [11] (fun i wr => ∃ j : Nat, j ≤ ps.length ∧ i = .int .i64 j ∧ Hid (∀ q (h : q < ps.length), q < j → ps[q].size = sz) ∧ w2 = wr) (fun i _ => ps.length - (intOf i).toNat)
            case atStart => exact ⟨0, by omega, rfl, fun q _ h => by omega, rfl⟩
            case round =>
              obtain ⟨j, hj, rfl, hE, rfl⟩ := hrel
              by_cases hlt : j < ps.length
              · -- <P2
                have hlt64 : (j : Int) < (ps.length : Int) := by omega
                have hj0 : (0 : Int) ≤ (j : Int) := by omega
                obtain ⟨b3, o3, e3, d1⟩ := text_cellH HP2.out hlt
                injection e3 with e3
                injection e3 with e4 e5
                subst e4 e5
                have HEJ := Lib.hid (HEF.out j hlt)
                have HEN : Hid (ps[j].size = sz → ∀ q (h : q < ps.length), q < j + 1 → ps[q].size = sz) := fun e q h hq => by
                  rcases Nat.lt_or_ge q j with h' | h'
                  · exact hE.out q h h'
                  · obtain rfl : q = j := by omega
                    exact e
                have HSB : Hid (ps[j].size ≤ 40000) := HPS.out _ (List.getElem_mem hlt)
                generalize ps[j] = s at *
                have hsb := HSB.out
                by_cases hs : s.size = sz
                · have q1 : ((s.size : Int) != (sz : Int)) = false := by rw [bne_eq_false_iff_eq]; omega
                  have q2 : (s.size != sz) = false := by rw [bne_eq_false_iff_eq]; omega
                  have HE2 := Lib.hid (HEN.out hs)
                  clear hs HEN HEJ
                  go_wp2_with fail
                  exact ⟨⟨j + 1, by omega, by go_num, HE2, by first | rfl | trivial⟩, by simp [intOf]; omega⟩
                · have q1 : ((s.size : Int) != (sz : Int)) = true := by rw [bne_iff_ne]; omega
                  have q2 : (s.size != sz) = true := by rw [bne_iff_ne]; omega
                  obtain ⟨x1, x2⟩ := HRN.out (HRE.out (HEJ.out hs))
                  have X1 := Lib.hid x1
                  have X2 := Lib.hid x2
                  clear x1 x2 hs HEN HEJ
                  go_wp2_with fail
                  go_ret2
                  exact ⟨by rw [X1.out, X2.out]; rfl, HK0.out.trans HK2.out⟩
                -- P2>
              · have ej : j = ps.length := by omega
                have HEV := Lib.hid (HET.out fun q h => hE.out q h (by omega))
                have HSQ := Lib.hid (fun q (h : q < ps.length) => HEO.out HEV.out q h)
                clear hE HET HEO HEF
                have kq1 : K ≤ q1 := by omega
                have kq3 : (K : Int) ≤ (q1 : Int) := by omega
                have kq0 : (0 : Int) ≤ (K : Int) := by omega
                obtain ⟨b1, o1, rfl, dead⟩ := int_cellP HH2'.out (i := 0) (by omega)
                clear dead hlt hj
                subst ej
                obtain ⟨c0, c1⟩ := HC0.out _ HK2.out
                go_wp2_with fail
                refine Calls.mono (refof_any (K : Int) (N : Int) _) ?_
                rintro e w3 ⟨vm, rfl, hm, hk⟩
                rw [HOF.out] at hm ⊢
                have HM := Lib.hid hm.at_
                have HK3 := Lib.hid (HK2.out.trans hk)
                obtain ⟨c0, c1⟩ := HC0.out _ HK3.out
                have HHK : Hid (SeqAt IsInt w3.heap (.slice (some ⟨b1, o1, none⟩) K q1) (hv.take K)) := SeqAt.front (SeqAt.keeps HH2'.out hk) hkv
                clear hm hk
                go_wp2_with fail
                refine Calls.mono (refrows_any vm _ _ (hv.take K) _ HM.out HHK.out) ?_
                rintro e w4 ⟨vr, rfl, hm, hk⟩
                rw [HT1.out] at hm ⊢
                have HR := Lib.hid hm.at_
                have HK4 := Lib.hid (HK3.out.trans hk)
                clear hm hk HM HHK
                go_wp2_with fail
                refine Calls.mono (refturn_any vr _ _ HR.out) ?_
                rintro e w5 ⟨vt, rfl, hm, hk⟩
                rw [HT2.out] at hm ⊢
                have HT := Lib.hid hm.at_
                have HK5 := Lib.hid (HK4.out.trans hk)
                obtain ⟨pt, qt, rfl⟩ := seq_shape HT.out
                try rw [HT3.out] at HT
                try rw [HT3.out]
                have HP5 := Lib.hid (SeqAt.keeps HP.out HK5.out)
                have HH5 := Lib.hid (SeqAt.keeps HH.out HK5.out)
                clear hm hk HR HT1 HT2 HH2' HP2 HOF
                have hz40 : ¬ (40000 : Int) < (sz : Int) := by omega
                try rw [HSZ.out] at HFM
                try rw [HSZ.out] at HFL
                generalize backM K N hv = A at *
                have HLL : Hid ((bytesP (ps.take K)).length = K) := by show _ = _; unfold bytesP; rw [List.length_map, List.length_take]; omega
                have HLA : Hid (∀ q b (hq : q < K), LA.at_ (bytesP (ps.take K)) q b = ((ps[q]'(by omega)).data.toList).getD b 0) := fun q b hq => by
                  unfold LA.at_ bytesP
                  congr 1
                  rw [List.getD_eq_getElem?_getD, List.getElem?_map, List.getElem?_take, if_pos hq, List.getElem?_eq_getElem (by omega)]; rfl
                generalize bytesP (ps.take K) = L at *
                have HFR : Hid (∀ j, j < K → (firstM K N hv ps).getD j [] = (List.range sz).map (sprAt A L j)) := fun j hj => by
                  rw [HFM.out]; unfold sprM; exact matOf_rowD (by rw [HT3.out]; exact hj)
                generalize firstM K N hv ps = F at *
                have HFA := Lib.hid (fun j b (hj : j ≤ F.length) => allV_len (b := b) HFL.out.2 hj)
                have HKL := Lib.hid HFL.out.1
                clear c0 c1 HFM
                go_wp2_with fail
                go_loopw [18, 19] (fun v i wr => ∃ j : Nat, j ≤ K ∧ i = .int .i64 j ∧ Hid (OwnSeq w5.heap.size 5 IsByte wr v (allV F j 0)) ∧ Hid (Keeps w5 wr)) (fun _ i _ => K - (intOf i).toNat)
                case atStart => exact ⟨0, by omega, rfl, OwnSeq.nil _ _ _ _, keeps_refl _⟩
                case round =>
                  obtain ⟨j, hj, rfl, hO, hK⟩ := hrel
                  obtain ⟨wo, rfl⟩ : ∃ wo : World, wo = wr := ⟨_, rfl⟩
                  obtain ⟨c0, c1⟩ := HC0.out _ (HK5.out.trans hK.out)
                  by_cases hlt : j < K
                  · -- <P3
                    have hlt64 : (j : Int) < (K : Int) := by omega
                    have hj0 : (0 : Int) ≤ (j : Int) := by omega
                    have HRW := Lib.hid (HFR.out j hlt)
                    have HRL : Hid ((F.getD j []).length = sz) := by show _ = _; rw [HRW.out]; simp
                    go_wp2_with fail
                    go_loopw [18, 20] (fun v i wr => ∃ b : Nat, b ≤ sz ∧ i = .int .i64 b ∧ Hid (OwnSeq w5.heap.size 5 IsByte wr v (allV F j b)) ∧ Hid (Keeps w5 wr)) (fun _ i _ => sz - (intOf i).toNat)
                    case atStart => exact ⟨0, by omega, rfl, hO, hK⟩
                    case round =>
                      obtain ⟨b, hb, rfl, hO2, hK2⟩ := hrel
                      obtain ⟨wi, rfl⟩ : ∃ wi : World, wi = wr := ⟨_, rfl⟩
                      obtain ⟨c0, c1⟩ := HC0.out _ (HK5.out.trans hK2.out)
                      have C0 := nat12' c0
                      have C1 := nat12' c1
                      by_cases hbl : b < sz
                      · have hbl64 : (b : Int) < (sz : Int) := by omega
                        have hb0 : (0 : Int) ≤ (b : Int) := by omega
                        have HTi := Lib.hid (MatAt.keeps HT.out hK2.out)
                        have HPi := Lib.hid (SeqAt.keeps HP5.out hK2.out)
                        clear c0 c1
                        go_wp2_with fail
                        go_loopw [21, 22] (fun x t wt => ∃ tt : Nat, tt ≤ K ∧ t = .int .i64 tt ∧ x = .int .u8 ((LA.sum tt fun q => LA.mul (LA.at_ A j q) (LA.at_ L q b)).toNat : Int) ∧ ∃ n, wt = wi.drewN n) (fun _ t _ => K - (intOf t).toNat)
                        case atStart => exact ⟨0, by omega, rfl, rfl, 0, rfl⟩
                        case round =>
                          obtain ⟨q, hq, rfl, rfl, n0, rfl⟩ := hrel
                          by_cases hql : q < K
                          · have hql64 : (q : Int) < (K : Int) := by omega
                            have hq0 : (0 : Int) ≤ (q : Int) := by omega
                            have hqp : q < ps.length := by omega
                            have hqp64 : (q : Int) < (ps.length : Int) := by omega
                            have hal : (A.getD j []).length = K := LA.rect_row HT4.out (by rw [HT3.out]; exact hlt)
                            obtain ⟨e1, e2, e3, e4, e5, e6, e7, f1, f2⟩ := mat_cell (j := q) HTi.out (show j < A.length by rw [HT3.out]; exact hlt) (by rw [hal]; exact hql)
                            rw [hal] at f1
                            injection e7 with e8 e9 e10
                            subst e8
                            have F1 := nat12' f1
                            have F2 := nat12' f2
                            obtain ⟨b3, o3, e11, d1⟩ := text_cellH HPi.out hqp
                            injection e11 with e12
                            injection e12 with e13 e14
                            subst e13 e14
                            have D1 := nat12' d1
                            have HSQZ := Lib.hid (HSQ.out q hqp)
                            have HIX := Lib.hid (index_at (ps[q]).data.toList b (by rw [data_size, HSQZ.out]; exact hbl))
                            rw [strB_data] at HIX
                            have HXA := Lib.hid (HLA.out q b hql)
                            rw [← HXA.out] at HIX
                            have hix := HIX.out
                            have HS : Hid (LA.sum (q + 1) (fun q => LA.mul (LA.at_ A j q) (LA.at_ L q b)) = LA.sum q (fun q => LA.mul (LA.at_ A j q) (LA.at_ L q b)) ^^^ LA.mul (LA.at_ A j q) (LA.at_ L q b)) := rfl
                            have hx := gxor (LA.sum q fun q => LA.mul (LA.at_ A j q) (LA.at_ L q b)) (LA.mul (LA.at_ A j q) (LA.at_ L q b))
                            clear f1 f2 d1 e9 e10 hal
                            generalize LA.sum q (fun q => LA.mul (LA.at_ A j q) (LA.at_ L q b)) = s at *
                            generalize LA.at_ A j q = x at *
                            generalize LA.at_ L q b = y at *
                            generalize ps[q] = pq at *
                            go_wp2_with fail
                            go_quiet (first | (go_at_call 21; refine Calls.mono (grefmul _ _ _) ?_; rintro e w' ⟨rfl, rfl⟩; exact ⟨rfl, _, rfl⟩))
                            go_wp2
                            exact ⟨⟨q + 1, by omega, by go_num, by rw [HS.out]; rfl, _, (by first | rfl | exact drew_two _ _ _)⟩, by simp [intOf]; omega⟩
                          · have eq : q = K := by omega
                            subst eq
                            obtain ⟨us, hu1, hu2, hu3⟩ := hO2.out
                            obtain ⟨pv, qv, rfl⟩ := own_slice hu1
                            have HU : Hid ((wi.drewN n0).ownsRow w5.heap.size 5 1 (.slice pv us.length qv) us.length us) := hu1
                            have HL2 := Lib.hid hu2
                            have H3 := Lib.hid hu3
                            have hus : us.length ≤ 600000 := by
                              have h1 := HFA.out j b (by rw [HKL.out]; omega)
                              have h2 : sz * j ≤ 40000 * 12 := Nat.mul_le_mul hszb (by omega)
                              omega
                            have HPE : Hid (LA.sum q (fun q => LA.mul (LA.at_ A j q) (LA.at_ L q b)) = (F.getD j []).getD b 0) := by
                              show _ = _
                              rw [HRW.out, List.getD_eq_getElem?_getD, List.getElem?_map, List.getElem?_range hbl]
                              show _ = sprAt A L j b
                              unfold sprAt; rw [HLL.out]
                            have HNX := Lib.hid (allV_next (F := F) (j := j) (b := b) (by rw [HRL.out]; exact hbl))
                            have hsz5 := hK2.out.size
                            rw [HPE.out]
                            generalize (F.getD j []).getD b 0 = x at *
                            clear hu1 hu2 hu3 HPE HTi HPi
                            go_wp2_with (at_builtin; refine wp_app1 elByte rfl (.tmp 152) (.tmp 154) rfl w5.heap.size (.slice pv us.length qv) us rfl (HU.out.alloc _) _ (.int .u8 (x.toNat : Int)) rfl (World.cell?_alloc_new _ _ _ _) rfl (by omega) (by simp; omega) ?_; intro v' w6 hown hchg; have HP6 := Lib.hid (OwnSeq.push (R := IsByte) (R' := IsByte) (l := allV F j b) (x := x) HL2.out H3.out hown (fun _ _ _ x => x) rfl); have HK6 := Lib.hid (keeps_ownD ((show Keeps w5 (wi.drewN n0) from hK2.out).trans (kal _ _)) (HU.out.alloc _) hchg); clear hown hchg)
                            exact ⟨⟨b + 1, by omega, by go_num, by rw [HNX.out]; exact HP6, HK6⟩, by simp [intOf]; omega⟩
                      · have eb : b = sz := by omega
                        have HAR := Lib.hid (allV_row (F := F) (j := j) (b := b) (by rw [HKL.out]; exact hlt) (by rw [HRL.out, eb]))
                        rw [HAR.out] at hO2
                        go_wp2_with fail
                        exact ⟨⟨j + 1, by omega, by go_num, hO2, hK2⟩, by simp [intOf]; omega⟩
                    -- P3>
                  · have ej : j = K := by omega
                    subst ej
                    rw [show allV F j 0 = F.flatten from by rw [← HKL.out]; exact allV_end F] at hO
                    -- <P4
                    have HWL : Hid (F.flatten.length = sz * F.length) := (flat_rows F sz HFL.out.2).1
                    have HKE := Lib.hid ((HK0.out.trans HK5.out).trans hK.out)
                    have HKR := Lib.hid (HK5.out.trans hK.out)
                    have HHW := Lib.hid (SeqAt.keeps HH5.out hK.out)
                    have HPW := Lib.hid (SeqAt.keeps HP5.out hK.out)
                    have hfl : F.length ≤ 12 := by rw [HKL.out]; omega
                    have hwb : sz * F.length ≤ 40000 * 12 := Nat.mul_le_mul hszb hfl
                    clear HFA HFR HT HLA HLL HT3 HT4 HK5 hK HP5 HH5
                    generalize F.flatten = W at *
                    have hwl : W.length ≤ 480000 := by rw [HWL.out]; exact hwb
                    have HNB := Lib.hid (rblob_not (W := W))
                    have HIB := Lib.hid (rblob_is (W := W))
                    obtain ⟨us, hu1, hu2, hu3⟩ := hO.out
                    have HROW0 := Lib.hid (SeqIn.at_ (hO.out.seq (by omega)))
                    have hcap := own_capok hu1
                    clear hu3
                    by_cases h8 : W.length < 8
                    · obtain ⟨x1, x2⟩ := HRN.out (HRB.out (HNB.out fun h => by omega))
                      have X1 := Lib.hid x1
                      have X2 := Lib.hid x2
                      obtain ⟨pv, qv, rfl⟩ := own_slice hu1
                      have h864 : (W.length : Int) < 8 := by omega
                      rw [hu2]
                      clear x1 x2 hu1 hO HROW0 hcap hu2 HRM HRY HRB HRS
                      go_wp2_with fail
                      go_ret2
                      exact ⟨by rw [X1.out, X2.out]; rfl, HKE.out⟩
                    · obtain ⟨g, qv, rfl, _, _⟩ := hu1.form (by omega)
                      rw [hu2] at HROW0 hcap ⊢
                      have hcq : W.length ≤ qv := by
                        obtain ⟨_, _, _, e1, h⟩ := hcap
                        injection e1 with e2 e3 e4
                        omega
                      have h864 : ¬ (W.length : Int) < 8 := by omega
                      have HRT := Lib.hid (SeqAt.front HROW0.out (k := 5) (by omega))
                      have q5 : (5 : Int) ≤ (qv : Int) := by omega
                      have q5' : 5 ≤ qv := by omega
                      clear hu1 hO hcap hu2
                      by_cases h5 : W.take 5 = [0, 0, 0, 0, 0]
                      · have cv5 := conv_rowT HRT.out
                        rw [h5, show strB [0, 0, 0, 0, 0] = (⟨#[0, 0, 0, 0, 0]⟩ : ByteArray) from rfl] at cv5
                        have HH5T := Lib.hid h5
                        clear h5
                        have d5 := byte_cellG HROW0.out (i := 5) (by omega)
                        have d6 := byte_cellG HROW0.out (i := 6) (by omega)
                        have d7 := byte_cellG HROW0.out (i := 7) (by omega)
                        have hb5 := (W.getD 5 0).toNat_lt
                        have hb6 := (W.getD 6 0).toNat_lt
                        have hb7 := (W.getD 7 0).toNat_lt
                        have hn3 : n3 W = (W.getD 5 0).toNat * 65536 + (W.getD 6 0).toNat * 256 + (W.getD 7 0).toNat := rfl
                        generalize (W.getD 5 0).toNat = b5 at *
                        generalize (W.getD 6 0).toNat = b6 at *
                        generalize (W.getD 7 0).toNat = b7 at *
                        have x5 : (5 : Int) < (W.length : Int) := by omega
                        have x6 : (6 : Int) < (W.length : Int) := by omega
                        have x7 : (7 : Int) < (W.length : Int) := by omega
                        generalize n3 W = N3 at *
                        have HN3 := Lib.hid hn3
                        clear hn3
                        go_wp2_with fail
                        go_quiet (fail)
                        have hx3 : ((b5 : Int) * 65536 + (b6 : Int) * 256 + (b7 : Int)) = (N3 : Int) := by have := HN3.out; omega
                        rw [hx3]
                        have HKE2 : Hid (Keeps w (wo.drewN nq)) := HKE.out
                        have HKR2 : Hid (Keeps (w.alloc (.cells #[.int .i64 (j : Int), .int .i64 (N : Int)] 23)) (wo.drewN nq)) := HKR.out
                        have HHW2 : Hid (SeqAt IsInt (wo.drewN nq).heap (.slice (some ⟨b1, o1, none⟩) hv.length q1) hv) := HHW.out
                        have HPW2 : Hid (TextsAt (wo.drewN nq).heap (.slice (some ⟨b2, o2, none⟩) ps.length q2) ps) := HPW.out
                        have HROW2 : Hid (RowAt (wo.drewN nq).heap (.slice (some ⟨g, 0, none⟩) W.length qv) W) := HROW0.out
                        clear d5 d6 d7 cv5 c0 c1 x5 x6 x7 hb5 hb6 hb7 hx3 HN3 HRT HROW0 HKE HKR HHW HPW
                        generalize wo.drewN nq = wd at *
                        obtain ⟨c0, c1⟩ := HC0.out _ HKR2.out
                        by_cases hbig : 32768 < N3
                        · obtain ⟨x1, x2⟩ := HRN.out (HRB.out (HNB.out fun h => by omega))
                          have X1 := Lib.hid x1
                          have X2 := Lib.hid x2
                          have z1 : (32768 : Int) < (N3 : Int) := by omega
                          clear x1 x2
                          go_wp2_with fail
                          go_ret2
                          exact ⟨by rw [X1.out, X2.out]; rfl, HKE2.out⟩
                        · have z1 : ¬ (32768 : Int) < (N3 : Int) := by omega
                          by_cases hlong : W.length < 8 + N3
                          · obtain ⟨x1, x2⟩ := HRN.out (HRB.out (HNB.out fun h => by omega))
                            have X1 := Lib.hid x1
                            have X2 := Lib.hid x2
                            have z2 : (W.length : Int) < 8 + (N3 : Int) := by omega
                            clear x1 x2
                            go_wp2_with fail
                            go_ret2
                            exact ⟨by rw [X1.out, X2.out]; rfl, HKE2.out⟩
                          · have z2 : ¬ (W.length : Int) < 8 + (N3 : Int) := by omega
                            have z3 : 8 + (N3 : Int) ≤ (qv : Int) := by omega
                            have z4 : (8 : Int) ≤ 8 + (N3 : Int) := by omega
                            have HBL : Hid (rblobL W = some ((W.drop 8).take N3)) := HIB.out (by omega) HH5T.out (by omega) (by omega)
                            have HLD : Hid (((W.drop 8).take N3).length = N3) := by show _ = _; rw [List.length_take, List.length_drop]; omega
                            have HCV : (qv = 8 ∧ (convert 39 9 (.slice (some ⟨g, 0, none⟩) N3 0)).run Tryd.prog wd = .ok (.string (strB ((W.drop 8).take N3))) wd) ∨ (qv ≠ 8 ∧ (convert 39 9 (.slice (some ⟨g, 8, none⟩) N3 (qv - 8))).run Tryd.prog wd = .ok (.string (strB ((W.drop 8).take N3))) wd) := by
                              rcases Nat.lt_or_ge 8 qv with hq | hq
                              · exact .inr ⟨by omega, conv_rowT (row_mid HROW2.out (by omega) rfl)⟩
                              · have e0 : (W.drop 8).take N3 = [] := by rw [List.take_eq_nil_iff]; left; omega
                                have e3 : N3 = 0 := by omega
                                rw [e0, e3]
                                exact .inl ⟨by omega, conv_rowT ⟨_, _, rfl, by simp, fun i hi => absurd hi (by simp)⟩⟩
                            rcases HCV with ⟨hq8, cv⟩ | ⟨hq8, cv⟩
                            all_goals
                              have HDS : Hid ((strB ((W.drop 8).take N3)).size = N3) := by show _ = _; rw [strB_size]; exact HLD.out
                              have HDD : Hid ((strB ((W.drop 8).take N3)).data.toList = (W.drop 8).take N3) := rfl
                              generalize hdd : (W.drop 8).take N3 = d at *
                              clear hdd
                              generalize hSD : strB d = SD at *
                              have HSD := Lib.hid hSD
                              clear hSD
                              go_wp2_with fail
                              have HEC : Hid (encC (j : Int) (N : Int) SD.data.toList = ((encM j N d).map strB, 0)) := by
                                show _ = _
                                have e : SD.data.toList = d := by rw [← HSD.out]; rfl
                                unfold encC
                                rw [e, HB.out, if_pos rfl, if_neg (by rw [HLD.out]; omega), Int.toNat_natCast, Int.toNat_natCast]
                              refine Calls.mono (rencode_any (j : Int) (N : Int) SD _ (by rw [HDS.out]; omega)) ?_
                              rintro e w6 ⟨v6, rfl, hs6, hk6⟩
                              rw [HEC.out] at hs6 ⊢
                              have HLW : Hid (((encM j N d).map strB).length = N) := by show _ = _; rw [List.length_map, encM_len]
                              obtain ⟨p6, q6, rfl⟩ := seq_shape (SeqIn.at_ hs6)
                              have HE6 := Lib.hid (SeqIn.at_ hs6)
                              dsimp only at HE6
                              rw [HLW.out] at HE6
                              have HK6 := Lib.hid (HKE2.out.trans hk6)
                              have HHX := Lib.hid (SeqAt.keeps HHW2.out hk6)
                              have HPX := Lib.hid (SeqAt.keeps HPW2.out hk6)
                              have HNO := Lib.hid (HRM.out d HBL.out)
                              have HYES := Lib.hid (HRY.out d HEV.out HBL.out)
                              have HGI := Lib.hid (fun q (h : q < hv.length) => (goodH_iff.1 hg.out).1 _ (List.getElem_mem h))
                              clear hs6 hk6 HROW2 HHW2 HPW2 HKR2 HRM HRY HRB HIB HNB HBL cv c0 c1 HEC HKE2 HDS HDD
                              dsimp only
                              rw [HLW.out]
                              generalize encM j N d = M at *
                              go_wp2_with fail
                              go_loopw [27] (fun i wr => ∃ t : Nat, t ≤ hv.length ∧ i = .int .i64 t ∧ Hid (∀ q (h : q < hv.length), q < t → strB (M.getD hv[q].toNat []) = ps[q]'(by have := HLEN.out; omega)) ∧ ∃ m, wr = w6.drewN m) (fun i _ => hv.length - (intOf i).toNat)
                              case atStart => exact ⟨0, by omega, rfl, fun q _ h => by omega, 0, rfl⟩
                              case round =>
                                obtain ⟨t, ht, rfl, hI, m6, rfl⟩ := hrel
                                by_cases htl : t < hv.length
                                · have htp : t < ps.length := by have := HLEN.out; omega
                                  have ht64 : (t : Int) < (hv.length : Int) := by omega
                                  have htp64 : (t : Int) < (ps.length : Int) := by omega
                                  have ht0 : (0 : Int) ≤ (t : Int) := by omega
                                  obtain ⟨z0, z1'⟩ := HGI.out t htl
                                  obtain ⟨bb1, oo1, e1, d1⟩ := int_cellP HHX.out htl
                                  injection e1 with e1
                                  injection e1 with e2 e3
                                  subst e2 e3
                                  obtain ⟨bb2, oo2, e4, d2⟩ := text_cellH HPX.out htp
                                  injection e4 with e4
                                  injection e4 with e5 e6
                                  subst e5 e6
                                  have HIS : Hid (∀ y, ps[t] = y → strB (M.getD hv[t].toNat []) = y → ∀ q (h : q < hv.length), q < t + 1 → strB (M.getD hv[q].toNat []) = ps[q]'(by have := HLEN.out; omega)) := fun y e1 e2 q h hq => by
                                    rcases Nat.lt_or_ge q t with h' | h'
                                    · exact hI.out q h h'
                                    · obtain rfl : q = t := by omega
                                      rw [e2, e1]
                                  have HBAD : Hid (strB (M.getD hv[t].toNat []) ≠ ps[t] → haveB M hv ps = false) := fun h => by
                                    rw [Bool.eq_false_iff]
                                    intro h'
                                    exact h ((haveB_iff HLEN.out).1 h' t htl)
                                  generalize hv[t] = z at *
                                  obtain ⟨zn, rfl⟩ := Int.eq_ofNat_of_zero_le z0
                                  rw [Int.toNat_natCast] at HIS HBAD
                                  have hzn : zn < N := by omega
                                  have hlm : zn < (M.map strB).length := by rw [HLW.out]; exact hzn
                                  obtain ⟨b3, o3, rfl, d3⟩ := text_cellH HE6.out hlm
                                  have HMG : Hid ((M.map strB)[zn] = strB (M.getD zn [])) := by
                                    show _ = _
                                    rw [List.getElem_map, List.getD_eq_getElem?_getD, List.getElem?_eq_getElem (by rw [List.length_map] at hlm; exact hlm)]; rfl
                                  rw [HMG.out] at d3
                                  have HPP : Hid (ps[t] = ps[t]) := rfl
                                  have HYY := Lib.hid (HIS.out ps[t] rfl)
                                  have D1 := nat12' d1
                                  have D2 := nat12' d2
                                  have D3 := nat12' d3
                                  generalize ps[t] = y at *
                                  clear d1 d2 d3 hlm HIS HPP HMG
                                  generalize strB (M.getD zn []) = x at *
                                  by_cases hxy : x = y
                                  · have HI2 := Lib.hid (HYY.out hxy)
                                    subst hxy
                                    clear HYY HBAD
                                    go_wp2_with fail
                                    go_quiet (fail)
                                    go_wp2
                                    exact ⟨⟨t + 1, by omega, by go_num, HI2, _, (by first | rfl | exact drew_two _ _ _)⟩, by simp [intOf]; omega⟩
                                  · have q1 : (x.toList == y.toList) = false := by rw [txt_eq]; exact decide_eq_false hxy
                                    have q2 : (x.toList != y.toList) = true := by unfold bne; rw [q1]; rfl
                                    obtain ⟨x1, x2⟩ := HRN.out (HNO.out (HBAD.out hxy))
                                    have X1 := Lib.hid x1
                                    have X2 := Lib.hid x2
                                    clear x1 x2 hxy HYY HBAD
                                    go_wp2_with fail
                                    go_quiet (fail)
                                    go_wp2
                                    go_ret2
                                    exact ⟨by rw [X1.out, X2.out]; rfl, HK6.out⟩
                                · have HFIN := Lib.hid (HYES.out ((haveB_iff HLEN.out).2 fun q h => hI.out q h (by omega)))
                                  obtain ⟨x1, x2⟩ := HRS.out d HFIN.out
                                  have X1 := Lib.hid x1
                                  have X2 := Lib.hid x2
                                  have ht64 : ¬ (t : Int) < (hv.length : Int) := by omega
                                  clear x1 x2
                                  go_wp2_with fail
                                  go_ret2
                                  exact ⟨by rw [X1.out, X2.out, HSD.out]; rfl, HK6.out⟩
                      · obtain ⟨x1, x2⟩ := HRN.out (HRB.out (HNB.out fun h => h5 h.2.1))
                        have X1 := Lib.hid x1
                        have X2 := Lib.hid x2
                        have cv5 := conv_rowT HRT.out
                        have q9 : ((strB (W.take 5)).toList == [0, 0, 0, 0, 0]) = false := by
                          rw [strB_toList]
                          rw [beq_eq_false_iff_ne]; exact h5
                        generalize strB (W.take 5) = T5 at *
                        clear x1 x2 h5
                        go_wp2_with fail
                        go_ret2
                        exact ⟨by rw [X1.out, X2.out]; rfl, HKE.out⟩
                    -- P4>
    · obtain ⟨x1, x2⟩ := HBAD.out 1 (hand_bad (.inr (.inl hlen))) (by decide)
      have HB := Lib.hid hb
      have X1 := Lib.hid x1
      have X2 := Lib.hid x2
      have hq : ((hv.length : Int) != (ps.length : Int)) = true := by rw [bne_iff_ne]; omega
      have hq2 : (hv.length != ps.length) = true := by rw [bne_iff_ne]; omega
      clear hb x1 x2 HBAD HGO hlen
      go_enter Tryd.func10, Tryd.ntmps10
      go_wp2_with fail
      refine Calls.mono (refmaycode_any k n _) ?_
      rintro e w1 ⟨rfl, hk1⟩
      rw [HB.out]
      have HK1 := Lib.hid hk1
      clear hk1
      go_wp2_with fail
      go_ret2
      exact ⟨by rw [X1.out, X2.out]; rfl, HK0.out.trans HK1.out⟩
end Go.Proofs.YtllfhaocdknejaaDoor
/- The walk of the reference's Rebuild. -/
namespace Go.Proofs.YtllfhaocdknejaaDoor
open Go.RowKit
attribute [local go_sem ↓] Go.wp_at_zero Go.wp_at_succ
theorem blobL_le {K s : Nat} {W d : List UInt8} (h : blobL K s W = some d) : d.length ≤ 32768 := by
  unfold blobL at h
  split at h
  · next hc =>
    injection h with h
    rw [← h, List.length_take]
    have := hc.2.1
    omega
  · cases h
theorem got_le {k n : Int} {hv : List Int} {ps : List ByteArray} : ((gotD k n hv ps).getD []).length ≤ 32768 := by
  cases hg : gotD k n hv ps with
  | none => simp
  | some d =>
    show d.length ≤ 32768
    unfold gotD at hg
    split at hg
    · unfold decD at hg
      split at hg
      · split at hg
        · next d' hb =>
          split at hg
          · injection hg with hg
            rw [← hg]
            exact blobL_le hb
          · cases hg
        · cases hg
      · cases hg
    · cases hg
set_option maxRecDepth 100000 in
set_option maxHeartbeats 4000000 in
theorem rrebuild_any (k n : Int) (vh vp : Value) (hv : List Int) (ps : List ByteArray) (i : Int) (w : World) (hps : ∀ p ∈ ps, p.size ≤ 40000) (hi : ∀ x ∈ hv, inI x) (hh : SeqAt IsInt w.heap vh hv) (hp : TextsAt w.heap vp ps) (ch : CapOk vh) :
    Calls Tryd.prog 12 #[.agg #[.int .i64 k, .int .i64 n], vh, vp, .int .i64 i] w fun e w' => e = .returned (.tuple #[.string (rebD k n hv ps i).1, .int .i64 (rebD k n hv ps i).2]) ∧ Keeps w w' := by
  have HFD := Lib.hid (fun wx (hx : Keeps (w.alloc (.cells #[.int .i64 k, .int .i64 n] 23)) wx) => rdecode_any k n vh vp hv ps wx hps hi (SeqAt.keeps hh ((kal w _).trans hx)) (SeqAt.keeps hp ((kal w _).trans hx)) ch)
  have HLE : Hid (((gotD k n hv ps).getD []).length ≤ 32768) := got_le
  have HC0 : Hid (∀ wx, Keeps (w.alloc (.cells #[.int .i64 k, .int .i64 n] 23)) wx → wx.cell? ⟨w.heap.size, 0, none⟩ = some (.int .i64 k) ∧ wx.cell? ⟨w.heap.size, 1, none⟩ = some (.int .i64 n)) := fun wx hx => ⟨keeps_cell hx (World.cell?_alloc_new _ _ _ _), keeps_cell hx (World.cell?_alloc_new _ _ _ _)⟩
  have HR1 : Hid ((codeB k n && decide (0 ≤ i ∧ i < n)) = false → rebD k n hv ps i = (⟨#[]⟩, 1)) := fun h => by unfold rebD; rw [h]; rfl
  have HR2 : Hid ((codeB k n && decide (0 ≤ i ∧ i < n)) = true → errD k n hv ps ≠ 0 → rebD k n hv ps i = (⟨#[]⟩, errD k n hv ps)) := fun h h' => by unfold rebD; rw [h, if_pos rfl, if_neg h']
  have HR3 : Hid ((codeB k n && decide (0 ≤ i ∧ i < n)) = true → errD k n hv ps = 0 → rebD k n hv ps i = (strB ((encM k.toNat n.toNat ((gotD k n hv ps).getD [])).getD i.toNat []), 0)) := fun h h' => by unfold rebD; rw [h, if_pos rfl, if_pos h']
  clear hh hp hi hps
  generalize errD k n hv ps = E at *
  generalize gotD k n hv ps = D at *
  generalize rebD k n hv ps i = R at *
  by_cases hok : codeB k n = true ∧ 0 ≤ i ∧ i < n
  · obtain ⟨hb, i0, i1⟩ := hok
    have HOK : Hid ((codeB k n && decide (0 ≤ i ∧ i < n)) = true) := by show _ = _; rw [hb, decide_eq_true ⟨i0, i1⟩]; rfl
    have HB := Lib.hid hb
    obtain ⟨g1, g2, g3⟩ := codeB_true.1 hb
    clear hb
    go_enter Tryd.func12, Tryd.ntmps12
    go_wp2_with fail
    refine Calls.mono (refmaycode_any k n _) ?_
    rintro e w1 ⟨rfl, hk1⟩
    rw [HB.out]
    obtain ⟨c0, c1⟩ := HC0.out _ hk1
    have HK1 := Lib.hid hk1
    clear hk1
    go_wp2_with fail
    refine Calls.mono (HFD.out _ HK1.out) ?_
    rintro e w2 ⟨rfl, hk2⟩
    have HK2 : Hid (Keeps w w2) := ((kal w _).trans HK1.out).trans hk2
    obtain ⟨c0, c1⟩ := HC0.out _ (HK1.out.trans hk2)
    clear hk2
    by_cases hE : E = 0
    · have HRE := Lib.hid (HR3.out HOK.out hE)
      subst hE
      obtain ⟨xn, rfl⟩ := Int.eq_ofNat_of_zero_le i0
      generalize D.getD [] = d at *
      have HEC : Hid (encC k n (strB d).data.toList = ((encM k.toNat n.toNat d).map strB, 0)) := by
        show _ = _
        have e : (strB d).data.toList = d := rfl
        unfold encC
        rw [e, HB.out, if_pos rfl, if_neg (by have := HLE.out; omega)]
      have HDS : Hid ((strB d).size ≤ 32768) := by show _ ≤ _; rw [strB_size]; exact HLE.out
      generalize strB d = s at *
      go_wp2_with fail
      refine Calls.mono (rencode_any k n s _ (by have := HDS.out; omega)) ?_
      rintro e w3 ⟨v, rfl, hs3, hk3⟩
      rw [HEC.out] at hs3 ⊢
      have HK3 := Lib.hid (HK2.out.trans hk3)
      have HGT := Lib.hid (SeqIn.at_ hs3)
      clear hs3 hk3 c0 c1
      obtain ⟨pv, qv, rfl⟩ := seq_shape HGT.out
      have HLW : Hid (((encM k.toNat n.toNat d).map strB).length = n.toNat) := by show _ = _; rw [List.length_map, encM_len]
      have hlm : xn < ((encM k.toNat n.toNat d).map strB).length := by rw [HLW.out]; omega
      obtain ⟨b3, o3, rfl, d1⟩ := text_cellH HGT.out hlm
      have HMG : Hid (((encM k.toNat n.toNat d).map strB)[xn] = strB ((encM k.toNat n.toNat d).getD xn [])) := by
        show _ = _
        rw [List.getElem_map, List.getD_eq_getElem?_getD, List.getElem?_eq_getElem (by rw [List.length_map] at hlm; exact hlm)]; rfl
      dsimp only at d1
      rw [HMG.out] at d1
      have hl64 : (xn : Int) < (n.toNat : Int) := by omega
      have hl65 : xn < n.toNat := by omega
      dsimp only
      rw [HLW.out]
      clear HMG hlm HEC
      have HRS : Hid (R.1 = strB ((encM k.toNat n.toNat d).getD xn [])) := by show _ = _; rw [HRE.out]; rfl
      rw [← HRS.out] at d1
      have HR0 : Hid (R.2 = 0) := by show _ = _; rw [HRE.out]
      go_wp2_with fail
      go_ret2
      exact ⟨by rw [HR0.out]; rfl, HK3.out⟩
    · have HRE := Lib.hid (HR2.out HOK.out hE)
      have q1 : (E != 0) = true := bne_iff_ne.2 hE
      clear hE
      go_wp2_with fail
      go_ret2
      exact ⟨by rw [HRE.out]; rfl, HK2.out⟩
  · have HRE : Hid (R = (⟨#[]⟩, 1)) := HR1.out (by
      cases h : codeB k n with
      | false => rfl
      | true => exact decide_eq_false fun h2 => hok ⟨h, h2⟩)
    cases hb : codeB k n with
    | false =>
      have HB := Lib.hid hb
      clear hb hok
      go_enter Tryd.func12, Tryd.ntmps12
      go_wp2_with fail
      refine Calls.mono (refmaycode_any k n _) ?_
      rintro e w1 ⟨rfl, hk1⟩
      rw [HB.out]
      have HK1 := Lib.hid hk1
      clear hk1
      go_wp2_with fail
      go_ret2
      exact ⟨by rw [HRE.out]; rfl, (kal w _).trans HK1.out⟩
    | true =>
      have HB := Lib.hid hb
      by_cases i0 : i < 0
      · clear hb hok
        go_enter Tryd.func12, Tryd.ntmps12
        go_wp2_with fail
        refine Calls.mono (refmaycode_any k n _) ?_
        rintro e w1 ⟨rfl, hk1⟩
        rw [HB.out]
        have HK1 := Lib.hid hk1
        clear hk1
        go_wp2_with fail
        go_ret2
        exact ⟨by rw [HRE.out]; rfl, (kal w _).trans HK1.out⟩
      · have i1 : n ≤ i := by
          rcases Int.lt_or_le i n with h | h
          · exact absurd ⟨hb, by omega, h⟩ hok
          · exact h
        clear hb hok
        go_enter Tryd.func12, Tryd.ntmps12
        go_wp2_with fail
        refine Calls.mono (refmaycode_any k n _) ?_
        rintro e w1 ⟨rfl, hk1⟩
        rw [HB.out]
        obtain ⟨c0, c1⟩ := HC0.out _ hk1
        have HK1 := Lib.hid hk1
        clear hk1
        go_wp2_with fail
        go_ret2
        exact ⟨by rw [HRE.out]; rfl, (kal w _).trans HK1.out⟩
end Go.Proofs.YtllfhaocdknejaaDoor
/- The walk of the law CodeDecodes. -/
namespace Go.Proofs.YtllfhaocdknejaaDoor
open Go.RowKit
attribute [local go_sem ↓] Go.wp_at_zero Go.wp_at_succ
set_option maxRecDepth 100000 in
set_option maxHeartbeats 2000000 in
/-- What the law's large does not call large has no long text. -/
theorem large5_any (v : Value) (ps : List ByteArray) (w : World) (hp : TextsAt w.heap v ps) (hz : ∀ x ∈ ps, x.size ≤ 140737488351232) :
    Calls Tryd.prog 8 #[v] w fun e w' => ∃ b : Bool, e = .returned (.bool b) ∧ (b = false → ∀ x ∈ ps, x.size ≤ 40000) ∧ ∃ n, w' = w.drewN n := by
  have hp63 : ps.length ≤ 9223372036854775807 := let ⟨_, _, _, x, _⟩ := hp; x
  obtain ⟨p, q, rfl⟩ := seq_shape hp
  have HP := Lib.hid hp
  have HZ := Lib.hid hz
  clear hp hz
  go_enter Tryd.func8, Tryd.ntmps8
  go_wp2
  go_loopw [3, 4] (fun n i wr => ∃ k s : Nat, k ≤ ps.length ∧ i = .int .i64 k ∧ n = .int .i64 (s : Int) ∧ s ≤ 281474976710656 ∧ Hid (∀ q (h : q < ps.length), q < k → ps[q].size ≤ s) ∧ ∃ d, wr = w.drewN d) (fun _ i _ => ps.length - (intOf i).toNat)
  case atStart => exact ⟨0, 0, by omega, rfl, rfl, by omega, fun q _ h => by omega, 0, rfl⟩
  case round =>
    obtain ⟨k, s, hk, rfl, rfl, hs, hI, d, rfl⟩ := hrel
    by_cases hlt : k < ps.length
    · have hlt64 : (k : Int) < (ps.length : Int) := by omega
      have hk0 : (0 : Int) ≤ (k : Int) := by omega
      by_cases hx : s < 30000
      · have hx64 : (s : Int) < 30000 := by omega
        obtain ⟨b, o, rfl, d1⟩ := text_cellH HP.out hlt
        have D1 := nat12' d1
        have hsz := HZ.out _ (List.getElem_mem hlt)
        have HI2 : Hid (∀ q (h : q < ps.length), q < k + 1 → ps[q].size ≤ s + 1 + ps[k].size) := fun q h hq => by
          rcases Nat.lt_or_ge q k with h' | h'
          · have := hI.out q h h'; omega
          · obtain rfl : q = k := by omega
            omega
        generalize ps[k] = t at *
        clear d1
        go_wp2_with fail
        exact ⟨⟨k + 1, s + 1 + t.size, by omega, by go_num, by go_num, by omega, HI2, _, rfl⟩, by simp [intOf]; omega⟩
      · have hx64 : ¬ (s : Int) < 30000 := by omega
        go_wp2_with fail
        go_ret
        exact .inr ⟨rfl, _, rfl⟩
    · have hlt64 : ¬ (k : Int) < (ps.length : Int) := by omega
      have HA : Hid (∀ x ∈ ps, x.size ≤ s) := fun x hx => by
        obtain ⟨q, hq, rfl⟩ := List.getElem_of_mem hx
        exact hI.out q hq (by omega)
      go_wp2_with fail
      go_ret
      rcases Nat.lt_or_ge s 30000 with hx | hx
      · refine .inl ⟨?_, fun x hx' => ?_, _, rfl⟩
        · show Ending.returned (Value.bool (decide (30000 ≤ (s : Int)))) = _
          rw [decide_eq_false (by omega)]
        · have := HA.out x hx'; omega
      · refine .inr ⟨?_, _, rfl⟩
        show Ending.returned (Value.bool (decide (30000 ≤ (s : Int)))) = _
        rw [decide_eq_true (by omega)]
set_option maxRecDepth 100000 in
set_option maxHeartbeats 4000000 in
theorem codeDecodes_walk (k n : Int) (vh : Value) (hv : List Int) (vp : Value) (ps : List ByteArray) (i : Int) (w : World) (hh : SeqAt IsInt w.heap vh hv) (hi : ∀ x ∈ hv, inI x) (ch : ∀ a n q, vh = .slice a n q → n ≤ q) (hp : TextsAt w.heap vp ps) (hz : ∀ x ∈ ps, x.size ≤ 140737488351232) (cp : ∀ a n q, vp = .slice a n q → n ≤ q) :
    Calls Tryd.prog 3 #[.agg #[.int .i64 k, .int .i64 n], vh, vp, .int .i64 i] w fun e w' => e = .returned (.bool true) ∧ Keeps w w' := by
  have hl63 : hv.length ≤ 9223372036854775807 := let ⟨_, _, _, x, _⟩ := hh; x
  obtain ⟨p1, q1, rfl⟩ := seq_shape hh
  obtain ⟨p2, q2, rfl⟩ := seq_shape hp
  have CH : Hid (CapOk (.slice p1 hv.length q1)) := ⟨_, _, _, rfl, ch _ _ _ rfl⟩
  have CP : Hid (CapOk (.slice p2 ps.length q2)) := ⟨_, _, _, rfl, cp _ _ _ rfl⟩
  have HC0 : Hid (∀ wx, Keeps (w.alloc (.cells #[.int .i64 k, .int .i64 n] 23)) wx → wx.cell? ⟨w.heap.size, 0, none⟩ = some (.int .i64 k) ∧ wx.cell? ⟨w.heap.size, 1, none⟩ = some (.int .i64 n)) := fun wx hx => ⟨keeps_cell hx (World.cell?_alloc_new _ _ _ _), keeps_cell hx (World.cell?_alloc_new _ _ _ _)⟩
  have HK0 := Lib.hid (kal w (.cells #[.int .i64 k, .int .i64 n] 23))
  have HH := Lib.hid (SeqAt.keeps hh HK0.out)
  have HP := Lib.hid (SeqAt.keeps hp HK0.out)
  have HI := Lib.hid hi
  have HZ := Lib.hid hz
  clear hh hp hi hz ch cp
  go_enter Tryd.func3, Tryd.ntmps3
  go_wp2_with fail
  refine Calls.mono (large5_any _ ps _ HP.out HZ.out) ?_
  rintro e w1 ⟨b, rfl, hb, m, rfl⟩
  have HK1 : Hid (Keeps (w.alloc (.cells #[.int .i64 k, .int .i64 n] 23)) ((w.alloc (.cells #[.int .i64 k, .int .i64 n] 23)).drewN m)) := keeps_refl _
  generalize (w.alloc (.cells #[.int .i64 k, .int .i64 n] 23)).drewN m = w1 at *
  have HB := Lib.hid hb
  clear hb
  cases b with
  | true =>
    go_wp2_with fail
    go_ret
    exact ⟨rfl, HK0.out.trans HK1.out⟩
  | false =>
    have HPS := Lib.hid (HB.out rfl)
    have HPM : Hid (∀ p ∈ ps, p.size ≤ 1000000) := fun p hp => by have := HPS.out p hp; omega
    by_cases hlen : 200 < hv.length
    · have h64 : (200 : Int) < (hv.length : Int) := by omega
      go_wp2_with fail
      go_ret
      exact ⟨rfl, HK0.out.trans HK1.out⟩
    · have h64 : ¬ (200 : Int) < (hv.length : Int) := by omega
      have HD := Lib.hid (fun wx (hx : Keeps (w.alloc (.cells #[.int .i64 k, .int .i64 n] 23)) wx) => decode_any k n _ _ hv ps wx HPM.out HI.out (SeqAt.keeps HH.out hx) (SeqAt.keeps HP.out hx) CH.out CP.out)
      have HRD := Lib.hid (fun wx (hx : Keeps (w.alloc (.cells #[.int .i64 k, .int .i64 n] 23)) wx) => rdecode_any k n _ _ hv ps wx HPS.out HI.out (SeqAt.keeps HH.out hx) (SeqAt.keeps HP.out hx) CH.out)
      have HR := Lib.hid (fun wx (hx : Keeps (w.alloc (.cells #[.int .i64 k, .int .i64 n] 23)) wx) => rebuild_any k n _ _ hv ps i wx HPM.out HI.out (SeqAt.keeps HH.out hx) (SeqAt.keeps HP.out hx) CH.out CP.out)
      have HRR := Lib.hid (fun wx (hx : Keeps (w.alloc (.cells #[.int .i64 k, .int .i64 n] 23)) wx) => rrebuild_any k n _ _ hv ps i wx HPS.out HI.out (SeqAt.keeps HH.out hx) (SeqAt.keeps HP.out hx) CH.out)
      clear HB HZ HI HPS HPM
      generalize strB ((gotD k n hv ps).getD []) = S at *
      generalize errD k n hv ps = E at *
      generalize rebD k n hv ps i = R at *
      obtain ⟨R1, R2⟩ := R
      obtain ⟨c0, c1⟩ := HC0.out _ HK1.out
      go_wp2_with fail
      refine Calls.mono (HD.out _ HK1.out) ?_
      rintro e w2 ⟨rfl, hk2⟩
      have HK2 := Lib.hid (HK1.out.trans hk2)
      clear hk2 c0 c1
      obtain ⟨c0, c1⟩ := HC0.out _ HK2.out
      go_wp2_with fail
      refine Calls.mono (HRD.out _ HK2.out) ?_
      rintro e w3 ⟨rfl, hk3⟩
      have HK3 := Lib.hid (HK2.out.trans hk3)
      clear hk3 c0 c1
      obtain ⟨c0, c1⟩ := HC0.out _ HK3.out
      go_wp2_with fail
      refine Calls.mono (HR.out _ HK3.out) ?_
      rintro e w4 ⟨rfl, hk4⟩
      have HK4 := Lib.hid (HK3.out.trans hk4)
      clear hk4 c0 c1
      obtain ⟨c0, c1⟩ := HC0.out _ HK4.out
      go_wp2_with fail
      refine Calls.mono (HRR.out _ HK4.out) ?_
      rintro e w5 ⟨rfl, hk5⟩
      have HK5 := Lib.hid (HK4.out.trans hk5)
      clear hk5 c0 c1
      go_wp2_with fail
      go_ret
      exact ⟨by simp, HK0.out.trans HK5.out⟩
end Go.Proofs.YtllfhaocdknejaaDoor
