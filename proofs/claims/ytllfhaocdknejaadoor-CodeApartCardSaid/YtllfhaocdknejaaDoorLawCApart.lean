/- The walk of the law CodeApart. -/
import Derived.Test.YtllfhaocdknejaaDoorCodeWk
import Derived.Test.YtllfhaocdknejaaDoorApartM
namespace Go.Proofs.YtllfhaocdknejaaDoor
open Go.RowKit
attribute [local go_sem ↓] Go.wp_at_zero Go.wp_at_succ
theorem data_ne {a b : ByteArray} (h : a ≠ b) : a.data.toList ≠ b.data.toList := fun e => h (by
  cases a; cases b; simp only [Array.toList_inj] at e; rw [e])
/-- At place i both lists have the same text. -/
def sameP (X Y : List ByteArray) (i : Nat) : Bool := decide (X.getD i ⟨#[]⟩ = Y.getD i ⟨#[]⟩)
theorem sameP_at {X Y : List ByteArray} {i : Nat} (hx : i < X.length) (hy : i < Y.length) : sameP X Y i = decide (X[i] = Y[i]) := by
  unfold sameP
  rw [List.getD_eq_getElem?_getD, List.getD_eq_getElem?_getD, List.getElem?_eq_getElem hx, List.getElem?_eq_getElem hy]; rfl
theorem sameP_self (X : List ByteArray) : ∀ n, cntB (sameP X X) n = n
  | 0 => rfl
  | n + 1 => by rw [cntB_succ, sameP_self X n]; unfold sameP; simp
theorem apart_cnt {K N : Nat} (hK : 1 ≤ K) (hKN : K ≤ N) (hN : N ≤ 12) {a b : ByteArray} (ha : a.size ≤ 3000) (hb : b.size ≤ 3000) (hne : a ≠ b) : cntB (sameP ((encM K N a.data.toList).map strB) ((encM K N b.data.toList).map strB)) N < K := by
  refine apart_lt hK hKN hN (by rw [data_size]; omega) (by rw [data_size]; omega) (data_ne hne) _ fun i hi hp => ?_
  have h1 : i < ((encM K N a.data.toList).map strB).length := by rw [List.length_map, encM_len]; exact hi
  have h2 : i < ((encM K N b.data.toList).map strB).length := by rw [List.length_map, encM_len]; exact hi
  rw [sameP_at h1 h2, decide_eq_true_iff, List.getElem_map, List.getElem_map] at hp
  rw [List.length_map] at h1 h2
  rw [List.getD_eq_getElem?_getD, List.getD_eq_getElem?_getD, List.getElem?_eq_getElem h1, List.getElem?_eq_getElem h2]
  exact strB_inj hp
theorem nat12 {w : World} {b i : Nat} {v : Value} (h : w.cell? ⟨b, i, none⟩ = some v) : ∀ n, (w.drewN n).cell? ⟨b, i, none⟩ = some v := fun _ => h
set_option maxRecDepth 100000 in
set_option maxHeartbeats 4000000 in
theorem capart_any (k n : Int) (a b : ByteArray) (w : World) (ha : a.size ≤ maxLen) (hb : b.size ≤ maxLen) :
    Calls Tryd.prog 4 #[.agg #[.int .i64 k, .int .i64 n], .string a, .string b] w fun e w' => e = .returned (.bool true) ∧ Keeps w w' := by
  have ha63 : a.size ≤ 9223372036854775807 := by unfold maxLen at ha; omega
  have hb63 : b.size ≤ 9223372036854775807 := by unfold maxLen at hb; omega
  clear ha hb
  have HC0 : Hid (∀ wx, Keeps (w.alloc (.cells #[.int .i64 k, .int .i64 n] 23)) wx → wx.cell? ⟨w.heap.size, 0, none⟩ = some (.int .i64 k) ∧ wx.cell? ⟨w.heap.size, 1, none⟩ = some (.int .i64 n)) := fun wx hx => ⟨keeps_cell hx (World.cell?_alloc_new _ _ _ _), keeps_cell hx (World.cell?_alloc_new _ _ _ _)⟩
  by_cases hbig : 3000 < a.size ∨ 3000 < b.size
  · by_cases h1 : 3000 < a.size
    · have j1 : (3000 : Int) < (a.size : Int) := by omega
      clear hbig
      go_enter Tryd.func4, Tryd.ntmps4
      go_wp2_with fail
      refine Calls.mono (works_any _) ?_
      rintro e w1 ⟨rfl, hk⟩
      have HK1 := Lib.hid hk
      clear hk
      go_wp2_with fail
      refine Calls.mono (works_any _) ?_
      rintro e w2 ⟨rfl, hk⟩
      have HK2 := Lib.hid (HK1.out.trans hk)
      clear hk
      go_wp2_with fail
      go_ret
      exact ⟨rfl, (kal w _).trans HK2.out⟩
    · have h2 : 3000 < b.size := by omega
      have j1 : ¬ (3000 : Int) < (a.size : Int) := by omega
      have j2 : (3000 : Int) < (b.size : Int) := by omega
      clear hbig
      go_enter Tryd.func4, Tryd.ntmps4
      go_wp2_with fail
      refine Calls.mono (works_any _) ?_
      rintro e w1 ⟨rfl, hk⟩
      have HK1 := Lib.hid hk
      clear hk
      go_wp2_with fail
      refine Calls.mono (works_any _) ?_
      rintro e w2 ⟨rfl, hk⟩
      have HK2 := Lib.hid (HK1.out.trans hk)
      clear hk
      go_wp2_with fail
      go_ret
      exact ⟨rfl, (kal w _).trans HK2.out⟩
  · have h1 : ¬ 3000 < a.size := by omega
    have h2 : ¬ 3000 < b.size := by omega
    have j1 : ¬ (3000 : Int) < (a.size : Int) := by omega
    have j2 : ¬ (3000 : Int) < (b.size : Int) := by omega
    have HEA := Lib.hid (fun wx => cencode_any k n a wx ha63)
    have HEB := Lib.hid (fun wx => cencode_any k n b wx hb63)
    have ha3 : a.size ≤ 3000 := by omega
    have hb3 : b.size ≤ 3000 := by omega
    cases hc : codeB k n with
    | false =>
      have HX : Hid (∀ d, encC k n d = ([], 1)) := fun d => by unfold encC; rw [hc]; rfl
      rw [HX.out] at HEA HEB
      clear hc hbig
      go_enter Tryd.func4, Tryd.ntmps4
      go_wp2_with fail
      refine Calls.mono (works_any _) ?_
      rintro e w1 ⟨rfl, hk⟩
      have HK1 := Lib.hid hk
      obtain ⟨c0, c1⟩ := HC0.out _ hk
      clear hk
      go_wp2_with fail
      refine Calls.mono (HEA.out _) ?_
      rintro e w2 ⟨va, rfl, hva, hk⟩
      obtain ⟨pa, qa, rfl⟩ := seq_shape hva.at_
      have HK2 := Lib.hid (HK1.out.trans hk)
      obtain ⟨c0, c1⟩ := HC0.out _ HK2.out
      clear hk hva
      go_wp2_with fail
      refine Calls.mono (HEB.out _) ?_
      rintro e w3 ⟨vb, rfl, hvb, hk⟩
      obtain ⟨pb, qb, rfl⟩ := seq_shape hvb.at_
      have HK3 := Lib.hid (HK2.out.trans hk)
      clear hk hvb
      go_wp2_with fail
      go_ret
      exact ⟨rfl, (kal w _).trans HK3.out⟩
    | true =>
      obtain ⟨g1, g2, g3⟩ := codeB_true.1 hc
      obtain ⟨K, rfl⟩ := Int.eq_ofNat_of_zero_le (show 0 ≤ k by omega)
      obtain ⟨N, rfl⟩ := Int.eq_ofNat_of_zero_le (show 0 ≤ n by omega)
      have hK : 1 ≤ K := by omega
      have hKN : K ≤ N := by omega
      have hN : N ≤ 12 := by omega
      have HX : Hid (∀ d : ByteArray, d.size ≤ 3000 → encC (K : Int) (N : Int) d.data.toList = ((encM K N d.data.toList).map strB, 0)) := fun d hd => by
        unfold encC; rw [hc, data_size, if_pos rfl, if_neg (by omega), Int.toNat_natCast, Int.toNat_natCast]
      rw [HX.out a ha3] at HEA
      rw [HX.out b hb3] at HEB
      have HLA : Hid (((encM K N a.data.toList).map strB).length = N) := by show _ = _; rw [List.length_map, encM_len]
      have HLB : Hid (((encM K N b.data.toList).map strB).length = N) := by show _ = _; rw [List.length_map, encM_len]
      have HCNT : Hid ((a = b → cntB (sameP ((encM K N a.data.toList).map strB) ((encM K N b.data.toList).map strB)) N = N) ∧ (a ≠ b → cntB (sameP ((encM K N a.data.toList).map strB) ((encM K N b.data.toList).map strB)) N < K)) :=
        ⟨fun e => by subst e; exact sameP_self _ _, fun e => apart_cnt hK hKN hN ha3 hb3 e⟩
      generalize (encM K N a.data.toList).map strB = X at *
      generalize (encM K N b.data.toList).map strB = Y at *
      clear hc hbig g1 g2 g3
      go_enter Tryd.func4, Tryd.ntmps4
      go_wp2_with fail
      refine Calls.mono (works_any _) ?_
      rintro e w1 ⟨rfl, hk⟩
      have HK1 := Lib.hid hk
      obtain ⟨c0, c1⟩ := HC0.out _ hk
      clear hk
      go_wp2_with fail
      refine Calls.mono (HEA.out _) ?_
      rintro e w2 ⟨va, rfl, hva, hk⟩
      obtain ⟨pa, qa, rfl⟩ := seq_shape hva.at_
      have HVA := Lib.hid hva.at_
      have HK2 := Lib.hid (HK1.out.trans hk)
      obtain ⟨c0, c1⟩ := HC0.out _ HK2.out
      clear hk hva
      go_wp2_with fail
      refine Calls.mono (HEB.out _) ?_
      rintro e w3 ⟨vb, rfl, hvb, hk⟩
      obtain ⟨pb, qb, rfl⟩ := seq_shape hvb.at_
      have HVB := Lib.hid hvb.at_
      have HVA3 := Lib.hid (SeqAt.keeps HVA.out hk)
      have HK3 := Lib.hid (HK2.out.trans hk)
      clear hk hvb
      obtain ⟨c0, c1⟩ := HC0.out _ HK3.out
      rw [HLA.out] at HVA3 ⊢
      rw [HLB.out] at HVB ⊢
      have C0 := nat12 c0
      have C1 := nat12 c1
      have l1 : (N : Int) ≠ 0 := by omega
      have l2 : ¬ (N : Int) < 1 := by omega
      have l3 : ¬ N < 1 := by omega
      go_wp2_with fail
      go_loopw [11, 12] (fun v i wr => ∃ j : Nat, j ≤ N ∧ i = .int .i64 j ∧ v = .int .i64 (cntB (sameP X Y) j : Nat) ∧ ∃ m, wr = w3.drewN m) (fun _ i _ => N - (intOf i).toNat)
      case atStart => exact ⟨0, by omega, rfl, rfl, 0, rfl⟩
      case round =>
        obtain ⟨j, hj, rfl, rfl, m, rfl⟩ := hrel
        by_cases hlt : j < N
        · have hlt64 : (j : Int) < (N : Int) := by omega
          have hj0 : (0 : Int) ≤ (j : Int) := by omega
          have hxl : j < X.length := by rw [HLA.out]; exact hlt
          have hyl : j < Y.length := by rw [HLB.out]; exact hlt
          obtain ⟨b1, o1, rfl, d1⟩ := text_cellH HVA3.out hxl
          obtain ⟨b2, o2, rfl, d2⟩ := text_cellH HVB.out hyl
          have m1 := nat12 d1
          have m2 := nat12 d2
          have HSA := Lib.hid (sameP_at hxl hyl)
          have HCS := Lib.hid (cntB_succ (sameP X Y) j)
          have HCL := Lib.hid (cntB_le (sameP X Y) j)
          rw [HSA.out] at HCS
          clear d1 d2
          generalize X[j] = s at *
          generalize Y[j] = u at *
          generalize cntB (sameP X Y) j = cc at *
          have hcc : cc ≤ 12 := by have := HCL.out; omega
          by_cases e : s = u
          · have HC2 : Hid (cntB (sameP X Y) (j + 1) = cc + 1) := by show _ = _; rw [HCS.out, decide_eq_true e]; rfl
            subst e
            go_wp2_with fail
            go_quiet (fail)
            go_wp2
            exact ⟨⟨j + 1, by omega, by go_num, by rw [HC2.out]; go_num, _, (by first | rfl | exact drew_two _ _ _)⟩, by simp [intOf]; omega⟩
          · have HC2 : Hid (cntB (sameP X Y) (j + 1) = cc) := by show _ = _; rw [HCS.out, decide_eq_false e]; rfl
            have q1 : (s.toList == u.toList) = false := by rw [txt_eq]; exact decide_eq_false e
            go_wp2_with fail
            go_quiet (fail)
            go_wp2
            exact ⟨⟨j + 1, by omega, by go_num, by rw [HC2.out], _, (by first | rfl | exact drew_two _ _ _)⟩, by simp [intOf]; omega⟩
        · obtain rfl : j = N := by omega
          by_cases e : a = b
          · have HC2 := Lib.hid (HCNT.out.1 e)
            rw [HC2.out]
            subst e
            go_wp2_with fail
            go_quiet (fail)
            go_wp2
            go_ret
            exact ⟨rfl, (kal w _).trans HK3.out⟩
          · have hcn := HCNT.out.2 e
            generalize cntB (sameP X Y) j = cc at *
            have hcn64 : (cc : Int) < (K : Int) := by omega
            have q1 : (a.toList == b.toList) = false := by rw [txt_eq]; exact decide_eq_false e
            have q2 : (a.toList != b.toList) = true := by unfold bne; rw [q1]; rfl
            go_wp2_with fail
            go_quiet (fail)
            go_wp2
            go_ret
            exact ⟨rfl, (kal w _).trans HK3.out⟩
end Go.Proofs.YtllfhaocdknejaaDoor
