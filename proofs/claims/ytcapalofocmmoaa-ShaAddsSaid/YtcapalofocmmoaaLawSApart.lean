/- The walk of the law ShaApart. -/
import Derived.Test.YtcapalofocmmoaaLawSPieces
namespace Go.Proofs.Ytcapalofocmmoaa
open Go.RowKit
/-- Two hashes, apart. -/
structure Two (w0 : World) (H X : Nat) (l m : List UInt8) (w : World) : Prop where
  one : HashM w H l
  two : HashM w X m
  kept : Keeps w0 w
theorem Two.keeps {w0 w w' : World} {H X : Nat} {l m : List UInt8} (t : Two w0 H X l m w) (k : Keeps w w') : Two w0 H X l m w' := ⟨t.one.keeps k, t.two.keeps k, t.kept.trans k⟩
theorem Two.add {w0 w w' : World} {H X : Nat} {l m l' : List UInt8} (t : Two w0 H X l m w) (h : HashM w' H l') (c : Chg (fun x => x = H) w w') (hne : H ≠ X) (hH : w0.heap.size ≤ H) : Two w0 H X l' m w' :=
  ⟨h, t.two.other c t.one.typ (fun e => hne e.symm), chg_new c t.kept hH⟩
theorem Two.add' {w0 w w' : World} {H X : Nat} {l m m' : List UInt8} (t : Two w0 H X l m w) (h : HashM w' X m') (c : Chg (fun x => x = X) w w') (hne : H ≠ X) (hX : w0.heap.size ≤ X) : Two w0 H X l m' w' :=
  ⟨t.one.other c t.two.typ hne, h, chg_new c t.kept hX⟩
theorem Two.third {w0 w w' : World} {H X Z : Nat} {l m k : List UInt8} (t : Two w0 H X l m w) (h : HashM w Z k) (c : Chg (fun x => x = Z) w w') (hH : H ≠ Z) (hX : X ≠ Z) (hZ : w0.heap.size ≤ Z) : Two w0 H X l m w' :=
  ⟨t.one.other c h.typ hH, t.two.other c h.typ hX, chg_new c t.kept hZ⟩
theorem sum_e (s : ByteArray) (l : List UInt8) (w : World) (hs : s.size ≤ 70368744177664) (h : s.data.toList = l) : Calls Try.prog 23 #[.string s] w fun e w' => e = .returned (.string (strB (SH.sumB l))) ∧ Keeps w w' := by
  have := ssum_any s w hs
  rw [h] at this
  exact this
theorem hadd_e (b : Nat) (l : List UInt8) (s : ByteArray) (m : List UInt8) (w : World) (h : HashM w b l) (hlen : l.length + s.size ≤ 140737488355328) (e : l ++ s.data.toList = m) :
    Calls Try.prog 17 #[.pointer (some ⟨b, 0, none⟩), .string s] w fun e w' => e = .returned (.int .i64 0) ∧ HashM w' b m ∧ Chg (fun x => x = b) w w' := by
  rw [← e]; exact hadd_any b l s w h hlen
set_option maxRecDepth 100000 in
set_option maxHeartbeats 4000000 in
theorem sapart_any (a b c : ByteArray) (n : Int) (w : World) (ha : a.size ≤ 140737488351232) (hb : b.size ≤ 140737488351232) (hc : c.size ≤ 140737488351232) : Calls Try.prog 8 #[.string a, .string b, .string c, .int .i64 n] w fun e w' => e = .returned (.bool true) ∧ Keeps w w' := by
  go_enter Try.func8, Try.ntmps8
  go_wp2_with fail
  refine Calls.mono (sworks_any w) ?_
  rintro e w1 ⟨rfl, hk⟩
  have HK := Lib.hid hk
  clear hk
  rcases Nat.lt_or_ge 20000 (a.size + b.size + c.size) with hbig | hbig
  · have g1 : (20000 : Int) < (a.size : Int) + (b.size : Int) + (c.size : Int) := by omega
    have g2 : decide ((20000 : Int) < (a.size : Int) + (b.size : Int) + (c.size : Int)) = true := decide_eq_true g1
    go_wp2_with fail
    refine Calls.mono (sworks_any w1) ?_
    rintro e w2 ⟨rfl, hk⟩
    have HK := Lib.hid (HK.out.trans hk)
    clear hk
    go_wp2_with fail
    go_ret
    exact ⟨rfl, HK.out⟩
  have g1 : (a.size : Int) + (b.size : Int) + (c.size : Int) ≤ 20000 := by omega
  have g2 : decide ((20000 : Int) < (a.size : Int) + (b.size : Int) + (c.size : Int)) = false := decide_eq_false (by omega)
  clear ha hb hc
  obtain ⟨A, hA⟩ : ∃ A, a.data.toList = A := ⟨_, rfl⟩
  obtain ⟨B, hB⟩ : ∃ B, b.data.toList = B := ⟨_, rfl⟩
  obtain ⟨C, hC⟩ : ∃ C, c.data.toList = C := ⟨_, rfl⟩
  have HA := Lib.hid hA
  have HB := Lib.hid hB
  have HC := Lib.hid hC
  have lA : A.length = a.size := by rw [← hA]; exact data_size a
  have lB : B.length = b.size := by rw [← hB]; exact data_size b
  have lC : C.length = c.size := by rw [← hC]; exact data_size c
  have LA := Lib.hid lA
  have LB := Lib.hid lB
  have LC := Lib.hid lC
  clear hA hB hC lA lB lC
  obtain ⟨κ, hκ, hke⟩ := rem_some n 5 (by omega) (by omega)
  have HKE : Hid (wrap64 ((IntKind.u64.wrap n).tmod 5) = (κ : Int)) := hke
  clear hke
  go_wp2_with fail
  refine Calls.mono (hnew_m w1) ?_
  rintro e w2 ⟨rfl, hm, hk⟩
  have HHN : Hid (w.heap.size ≤ w1.heap.size) := HK.out.size
  have HK := Lib.hid (HK.out.trans hk)
  have HM := Lib.hid hm
  clear hk hm
  generalize w1.heap.size = H at *
  go_wp2_with fail
  refine Calls.mono (hadd_e H [] a A w2 HM.out (by simp; omega) HA.out) ?_
  rintro e w3 ⟨rfl, hm, hc⟩
  have HM := Lib.hid hm
  have HK := Lib.hid (chg_new hc HK.out HHN.out)
  clear hm hc
  go_wp2_with fail
  refine Calls.mono (hcopy_any H A w3 HM.out) ?_
  rintro e w4 ⟨rfl, hm, hk⟩
  have HXN : Hid (w.heap.size ≤ w3.heap.size) := HK.out.size
  have HNE : Hid (H ≠ w3.heap.size) := fun e => by have := HashR.lt HM.out; omega
  have HT : Hid (Two w H w3.heap.size A A w4) := ⟨HM.out.keeps hk, hm, HK.out.trans hk⟩
  clear hm hk HK HM
  generalize w3.heap.size = X at *
  have hyy : ((strB (SH.sumB A)).toList == (strB (SH.sumB A)).toList) = true := by simp
  go_wp2_with fail
  go_loopw [11] (fun i wr => ∃ k : Nat, k ≤ κ ∧ i = .int .i64 k ∧ Hid (Two w H X A A wr)) (fun i _ => κ - (intOf i).toNat)
  case atStart => exact ⟨0, by omega, rfl, HT⟩
  case round =>
    obtain ⟨k, hk, rfl, hT⟩ := hrel
    clear HT
    have hke := HKE.out
    have hla : Hid ((A.length : Int) = (a.size : Int)) := by show _ = _; rw [LA.out]
    have hlc := LC.out
    by_cases hlt : k < κ
    · have hlt64 : (k : Int) < (κ : Int) := by omega
      have g5 : decide ((k : Int) < (κ : Int)) = true := decide_eq_true hlt64
      go_wp2_with fail
      refine Calls.mono (hsum_any H A _ hT.out.one (by rw [LA.out]; omega)) ?_
      rintro e wx0 ⟨rfl, hk⟩
      have hT := Lib.hid (hT.out.keeps hk)
      clear hk
      go_wp2_with fail
      refine Calls.mono (sum_e a A _ (by omega) HA.out) ?_
      rintro e wx1 ⟨rfl, hk⟩
      have hT := Lib.hid (hT.out.keeps hk)
      clear hk
      go_wp2_with fail
      refine Calls.mono (hadd_e H A ⟨#[]⟩ A _ hT.out.one (by rw [LA.out]; show a.size + 0 ≤ _; omega) (List.append_nil A)) ?_
      rintro e wx2 ⟨rfl, hm, hc⟩
      have hT := Lib.hid (hT.out.add hm hc HNE.out HHN.out)
      clear hm hc
      go_wp2_with fail
      refine Calls.mono (hlen_any H A _ hT.out.one) ?_
      rintro e wx3 ⟨rfl, rfl⟩
      rw [hla.out]
      go_wp2_with fail
      refine Calls.mono (hcopy_any X A _ hT.out.two) ?_
      rintro e wx4 ⟨rfl, hm, hk⟩
      have hz1 : Hid (H ≠ _) := Nat.ne_of_lt (HashR.lt hT.out.one)
      have hz2 : Hid (X ≠ _) := Nat.ne_of_lt (HashR.lt hT.out.two)
      have hz3 : Hid (w.heap.size ≤ _) := hT.out.kept.size
      have hT := Lib.hid (hT.out.keeps hk)
      have HMC := Lib.hid hm
      clear hm hk
      go_wp2_with fail
      refine Calls.mono (hadd_e _ A c (A ++ C) _ HMC.out (by rw [LA.out]; omega) (by rw [HC.out])) ?_
      rintro e wx5 ⟨rfl, hm, hc⟩
      have hT := Lib.hid (hT.out.third HMC.out hc hz1.out hz2.out hz3.out)
      clear hm hc
      go_wp2_with fail
      exact ⟨⟨k + 1, by omega, by go_num, hT⟩, by simp [intOf]; omega⟩
    · obtain rfl : k = κ := by omega
      have g5 : decide ((k : Int) < (k : Int)) = false := decide_eq_false (by omega)
      go_wp2_with fail
      clear hla hyy
      have hy1 : ((strB (SH.sumB (A ++ B))).toList == (strB (SH.sumB (A ++ B))).toList) = true := by simp
      have hy2 : ((strB (SH.sumB (A ++ C))).toList == (strB (SH.sumB (A ++ C))).toList) = true := by simp
      have hy3 : ((strB (SH.sumB (A ++ B ++ C))).toList == (strB (SH.sumB (A ++ B ++ C))).toList) = true := by simp
      have hlb := LB.out
      have hs1 : a.size + b.size ≤ 20000 := by omega
      have hs2 : a.size + c.size ≤ 20000 := by omega
      have hs3 : a.size + b.size + c.size ≤ 20000 := by omega
      have hl1 : Hid ((((A ++ B).length : Nat) : Int) = (a.size : Int) + (b.size : Int)) := by show _ = _; rw [List.length_append, LA.out, LB.out]; omega
      have hl2 : Hid ((((A ++ C).length : Nat) : Int) = (a.size : Int) + (c.size : Int)) := by show _ = _; rw [List.length_append, LA.out, LC.out]; omega
      have ht1 : Hid ((a ++ b).data.toList = A ++ B) := by show _ = _; rw [ByteArray.data_append, Array.toList_append, HA.out, HB.out]
      have ht2 : Hid ((a ++ c).data.toList = A ++ C) := by show _ = _; rw [ByteArray.data_append, Array.toList_append, HA.out, HC.out]
      have ht3 : Hid ((a ++ b ++ c).data.toList = A ++ B ++ C) := by show _ = _; rw [ByteArray.data_append, Array.toList_append, ht1.out, HC.out]
      have hz1 : Hid ((a ++ b).size ≤ 20000) := by show _ ≤ _; rw [ByteArray.size_append]; omega
      have hz2 : Hid ((a ++ c).size ≤ 20000) := by show _ ≤ _; rw [ByteArray.size_append]; omega
      have hz3 : Hid ((a ++ b ++ c).size ≤ 20000) := by show _ ≤ _; rw [ByteArray.size_append, ByteArray.size_append]; omega
      refine Calls.mono (hadd_e H A b (A ++ B) _ hT.out.one (by rw [LA.out]; omega) (by rw [HB.out])) ?_
      rintro e wx20 ⟨rfl, hm, hc⟩
      have hT := Lib.hid (hT.out.add hm hc HNE.out HHN.out)
      clear hm hc
      go_wp2_with fail
      refine Calls.mono (hadd_e X A c (A ++ C) _ hT.out.two (by rw [LA.out]; omega) (by rw [HC.out])) ?_
      rintro e wx21 ⟨rfl, hm, hc⟩
      have hT := Lib.hid (hT.out.add' hm hc HNE.out HXN.out)
      clear hm hc
      go_wp2_with fail
      refine Calls.mono (hsum_any H (A ++ B) _ hT.out.one (by rw [List.length_append, LA.out, LB.out]; omega)) ?_
      rintro e wx22 ⟨rfl, hk⟩
      have hT := Lib.hid (hT.out.keeps hk)
      clear hk
      go_wp2_with fail
      refine Calls.mono (sum_e (a ++ b) (A ++ B) _ (by have := hz1.out; omega) ht1.out) ?_
      rintro e wx23 ⟨rfl, hk⟩
      have hT := Lib.hid (hT.out.keeps hk)
      clear hk
      go_wp2_with fail
      refine Calls.mono (hsum_any X (A ++ C) _ hT.out.two (by rw [List.length_append, LA.out, LC.out]; omega)) ?_
      rintro e wx24 ⟨rfl, hk⟩
      have hT := Lib.hid (hT.out.keeps hk)
      clear hk
      go_wp2_with fail
      refine Calls.mono (sum_e (a ++ c) (A ++ C) _ (by have := hz2.out; omega) ht2.out) ?_
      rintro e wx25 ⟨rfl, hk⟩
      have hT := Lib.hid (hT.out.keeps hk)
      clear hk
      go_wp2_with fail
      refine Calls.mono (hlen_any H (A ++ B) _ hT.out.one) ?_
      rintro e wx26 ⟨rfl, rfl⟩
      rw [hl1.out]
      go_wp2_with fail
      refine Calls.mono (hlen_any X (A ++ C) _ hT.out.two) ?_
      rintro e wx27 ⟨rfl, rfl⟩
      rw [hl2.out]
      go_wp2_with fail
      refine Calls.mono (hadd_e H (A ++ B) c (A ++ B ++ C) _ hT.out.one (by rw [List.length_append, LA.out, LB.out]; omega) (by rw [HC.out])) ?_
      rintro e wx28 ⟨rfl, hm, hc⟩
      have hT := Lib.hid (hT.out.add hm hc HNE.out HHN.out)
      clear hm hc
      go_wp2_with fail
      refine Calls.mono (hsum_any H (A ++ B ++ C) _ hT.out.one (by rw [List.length_append, List.length_append, LA.out, LB.out, LC.out]; omega)) ?_
      rintro e wx29 ⟨rfl, hk⟩
      have hT := Lib.hid (hT.out.keeps hk)
      clear hk
      go_wp2_with fail
      refine Calls.mono (sum_e (a ++ b ++ c) (A ++ B ++ C) _ (by have := hz3.out; omega) ht3.out) ?_
      rintro e wx30 ⟨rfl, hk⟩
      have hT := Lib.hid (hT.out.keeps hk)
      clear hk
      go_wp2_with fail
      go_ret
      exact ⟨rfl, hT.out.kept⟩
end Go.Proofs.Ytcapalofocmmoaa
