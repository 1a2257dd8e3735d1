/- The walk of the law PackBack. -/
import Derived.Test.YteandjophamipaaLawMore
import Derived.Test.YteandjophamipaaLine
import Derived.Test.YteandjophamipaaAppNil
namespace Go.Proofs.Yteandjophamipaa
open Go.RowKit
theorem readP_cases (b : List UInt8) : (∃ L O, readP b = (L, O, 0)) ∨ readP b = ([], [], 4) := by
  unfold readP
  split
  · exact .inl ⟨_, _, rfl⟩
  · exact .inr rfl
theorem chunk_in {l : List ByteArray} {i : Nat} (h : i < l.length) : (strB (blobP l)).extract ((headP l).length + total (l.take i)) ((headP l).length + total (l.take i) + (atP l i).size) = atP l i := by
  have e : blobP l = (headP l ++ joinP (l.take i)) ++ ((atP l i).data.toList ++ joinP (l.drop (i + 1))) := by
    unfold blobP; rw [List.append_assoc]; congr 1; exact joinP_split h
  have hl2 : (headP l ++ joinP (l.take i)).length = (headP l).length + total (l.take i) := by rw [List.length_append, joinP_length]
  have e2 : (strB (blobP l)).data.toList = blobP l := rfl
  rw [ext_both, e2, e, List.drop_left' hl2, show ∀ a b : Nat, a + b - a = b from fun a b => by omega, List.take_left' (data_size _), strB_data]
theorem rem_small (n : Int) (m : Nat) (h : 0 < m) (hm : m ≤ 4096) : ∃ κ : Nat, κ < m ∧ wrap64 ((IntKind.u64.wrap n).tmod (m : Int)) = (κ : Int) := by
  have h0 : 0 ≤ IntKind.u64.wrap n := by unfold IntKind.wrap; simp [IntKind.signed, IntKind.bits]; omega
  have h1 : (IntKind.u64.wrap n).tmod (m : Int) = IntKind.u64.wrap n % (m : Int) := Int.tmod_eq_emod_of_nonneg h0
  have h2 := Int.emod_nonneg (IntKind.u64.wrap n) (show (m : Int) ≠ 0 by omega)
  have h3 := Int.emod_lt_of_pos (IntKind.u64.wrap n) (show (0 : Int) < m by omega)
  rw [h1]
  refine ⟨(IntKind.u64.wrap n % (m : Int)).toNat, by omega, ?_⟩
  rw [w64 _ (by omega) (by omega)]; omega
theorem textsV_take {w : World} {b off c : Nat} {l : List ByteArray} (s : TextsAt w.heap (.slice (some ⟨b, off, none⟩) l.length c) l) (k : Nat) : ∀ j (h : j < (textsV (l.take k)).length), w.cell? ⟨b, off + j, none⟩ = some (textsV (l.take k))[j] := fun j h => by
  have hj : j < (l.take k).length := by rwa [textsV_length] at h
  have hj2 : j < l.length := by rw [List.length_take] at hj; omega
  rw [textsV_at s j (by rw [textsV_length]; exact hj2)]
  simp [textsV]
theorem textsV_drop {w : World} {b off c : Nat} {l : List ByteArray} (s : TextsAt w.heap (.slice (some ⟨b, off, none⟩) l.length c) l) (k : Nat) : ∀ j (h : j < (textsV (l.drop k)).length), w.cell? ⟨b, off + k + j, none⟩ = some (textsV (l.drop k))[j] := fun j h => by
  have hj : j < (l.drop k).length := by rwa [textsV_length] at h
  have hj2 : k + j < l.length := by rw [List.length_drop] at hj; omega
  rw [Nat.add_assoc, textsV_at s (k + j) (by rw [textsV_length]; exact hj2)]
  simp [textsV]
theorem ownSeq_alloc {α : Type} {base : Nat} {E : TypeId} {R : Value → α → Prop} {w : World} {v : Value} {l : List α} (h : OwnSeq base E R w v l) (o : Obj) : OwnSeq base E R (w.alloc o) v l := let ⟨us, a, b, c⟩ := h; ⟨us, a.alloc o, b, c⟩
theorem guard_none {need : List (List Nat)} {G : Nat → Value → World → Prop} {i : Nat} {o : Oper} (h : o.guard = none) : GuardAt need G i o := fun g b e => by rw [h] at e; cases e
def lessG (N : Nat) (l : List ByteArray) (κ b o q i : Nat) (v : Value) (w : World) : Prop :=
  if i = 0 then w.ownsRow N 9 1 v 0 []
  else if i = 4 then w.ownsRow N 9 1 v κ (textsV (l.take κ))
  else if i = 9 then OwnSeq N 9 IsText w v (lessP l κ)
  else if i = 10 then OwnSeq N 9 IsText w v (lessP l κ)
  else v = ([undef, .slice (some ⟨b, o, none⟩) l.length q, .int .i64 (κ : Int), .slice (some ⟨b, o, none⟩) κ q, undef, .slice (some ⟨b, o, none⟩) l.length q, .int .i64 (κ : Int), .int .i64 ((κ : Int) + 1), .slice (if q = κ + 1 then some ⟨b, o, none⟩ else some ⟨b, o + (κ + 1), none⟩) (l.length - (κ + 1)) (q - (κ + 1))] : List Value).getD i undef
theorem lessG_alloc {N : Nat} {l : List ByteArray} {κ b o q i : Nat} {v : Value} {w : World} (h : lessG N l κ b o q i v w) (x : Obj) : lessG N l κ b o q i v (w.alloc x) := by
  unfold lessG at *
  split
  · rename_i e; rw [if_pos e] at h; exact h.alloc x
  · rename_i e; rw [if_neg e] at h
    split
    · rename_i e; rw [if_pos e] at h; exact h.alloc x
    · rename_i e; rw [if_neg e] at h
      split
      · rename_i e; rw [if_pos e] at h; exact ownSeq_alloc h x
      · rename_i e; rw [if_neg e] at h
        split
        · rename_i e; rw [if_pos e] at h; exact ownSeq_alloc h x
        · rename_i e; rw [if_neg e] at h; exact h
theorem lessG_same {N : Nat} {l : List ByteArray} {κ b o q i : Nat} {v : Value} {w w' : World} (h : lessG N l κ b o q i v w) (h0 : i ≠ 0) (h4 : i ≠ 4) (h9 : i ≠ 9) (h10 : i ≠ 10) : lessG N l κ b o q i v w' := by
  unfold lessG at *
  rw [if_neg h0, if_neg h4, if_neg h9, if_neg h10] at *
  exact h
set_option maxRecDepth 100000 in
theorem sum_i64 (f m : Nat) (h : f + m ≤ 60000) : IntKind.i64.wrap ((f : Int) + (m : Int)) = (f : Int) + (m : Int) := IntWalk.i64_in _ (by omega)
theorem sum_w64 (f m : Nat) (h : f + m ≤ 60000) : wrap64 ((f : Int) + (m : Int)) = (f : Int) + (m : Int) := w64 _ (by omega) (by omega)
set_option maxRecDepth 100000 in
theorem slice_at (B x : ByteArray) (f : Nat) (h : f + x.size ≤ B.size) (e : B.extract f (f + x.size) = x) : ∀ wx : World, (Instr.slice 9 (.string B) (some (.int .i64 (f : Int))) (some (.int .i64 ((f : Int) + (x.size : Int)))) none).run Try.prog wx = .ok (.string x) wx := fun wx => by
  have h1 : ((f : Int) + (x.size : Int)).toNat = f + x.size := by omega
  have h2 : (f : Int).toNat = f := by omega
  rw [run_slice_string _ _ _ _ _ _ _ rfl (by omega) (by omega) (by omega), h1, h2, e]
set_option maxRecDepth 100000 in
set_option maxHeartbeats 4000000 in
theorem pback_any (va : Value) (l : List ByteArray) (s : ByteArray) (n : Int) (w : World) (ha : TextsAt w.heap va l) (hcp : ∀ a n q, va = .slice a n q → n ≤ q) (_ : s.size ≤ maxLen) (hn : -9223372036854775808 ≤ n ∧ n ≤ 9223372036854775807) : Calls Try.prog 6 #[va, .string s, .int .i64 n] w fun e w' => e = .returned (.bool true) ∧ Keeps w w' := by
  obtain ⟨pa, qa, rfl⟩ := seq_shape ha
  have hqa : l.length ≤ qa := hcp _ _ _ rfl
  clear hcp
  have HA := Lib.hid ha
  have HNN := Lib.hid hn
  have he0 : (ByteArray.empty.toList == []) = true := by rw [toList_eq]; decide
  have hss : (s.toList == s.toList) = true := by rw [txt_eq]; exact decide_eq_true rfl
  clear ha hn
  go_enter Try.func6, Try.ntmps6
  go_wp2_with fail
  refine Calls.mono (pworks_any _) ?_
  rintro e w1 ⟨rfl, hk⟩
  have HA := Lib.hid (SeqAt.keeps HA.out hk)
  have HK := Lib.hid hk
  clear hk
  go_wp2_with fail
  refine Calls.mono (plarge_any _ l _ HA.out) ?_
  rintro e w' ⟨z, rfl, rfl⟩
  cases z with
  | true =>
    go_wp2_with fail
    refine Calls.mono (pworks_any _) ?_
    rintro e w2 ⟨rfl, hk⟩
    go_wp2_with fail
    go_ret
    exact ⟨rfl, HK.out.trans hk⟩
  | false =>
  by_cases h4 : 20000 < s.size
  · have g0 : decide ((20000 : Int) < (s.size : Int)) = true := decide_eq_true (by omega)
    go_wp2_with fail
    refine Calls.mono (pworks_any _) ?_
    rintro e w2 ⟨rfl, hk⟩
    go_wp2_with fail
    go_ret
    exact ⟨rfl, HK.out.trans hk⟩
  have g0 : decide ((20000 : Int) < (s.size : Int)) = false := decide_eq_false (by omega)
  rcases readP_cases s.data.toList with ⟨L, O, hr⟩ | hr
  · have HR := Lib.hid hr
    have HMR : Hid (makeP L = (s, O, 0)) := by
      have := make_read hr
      rw [strB_data] at this
      exact this
    clear hr
    go_wp2_with fail
    refine Calls.mono (readP_e (pread_any s _ (by omega)) HR.out) ?_
    rintro e w2 ⟨v2, u2, rfl, ha, hb, hk⟩
    have HL := Lib.hid (SeqIn.at_ ha)
    have HO := Lib.hid (SeqIn.at_ hb)
    have HA := Lib.hid (SeqAt.keeps HA.out hk)
    have HK := Lib.hid (HK.out.trans hk)
    clear ha hb hk
    go_wp2_with fail
    refine Calls.mono (makeP_e (pmake_any _ L _ HL.out) HMR.out) ?_
    rintro e w3 ⟨v3, rfl, ha, hk⟩
    have HO3 := Lib.hid (SeqIn.at_ ha)
    have HO := Lib.hid (SeqAt.keeps HO.out hk)
    have HA := Lib.hid (SeqAt.keeps HA.out hk)
    have HK := Lib.hid (HK.out.trans hk)
    clear ha hk
    go_wp2_with fail
    refine Calls.mono (ints_same _ _ O _ HO.out HO3.out) ?_
    rintro e w4 ⟨rfl, hk⟩
    have HA := Lib.hid (SeqAt.keeps HA.out hk)
    have HK := Lib.hid (HK.out.trans hk)
    clear hk HO HO3 HL
    cases hm : mayP l with
    | false =>
      have HM := Lib.hid hm
      have HMP := Lib.hid (makeP_no hm)
      clear hm
      go_wp2_with fail
      refine Calls.mono (makeP_e (pmake_any _ l _ HA.out) HMP.out) ?_
      rintro e w6 ⟨v6, rfl, _, hk⟩
      have HA := Lib.hid (SeqAt.keeps HA.out hk)
      have HK := Lib.hid (HK.out.trans hk)
      clear hk
      go_wp2_with fail
      refine Calls.mono (pmay_e _ l _ HA.out _ HM.out) ?_
      rintro e w7 ⟨rfl, hk⟩
      have HA := Lib.hid (SeqAt.keeps HA.out hk)
      have HK := Lib.hid (HK.out.trans hk)
      clear hk
      go_wp2_with fail
      refine Calls.mono (pmay_e _ l _ HA.out _ HM.out) ?_
      rintro e w8 ⟨rfl, hk⟩
      have HK := Lib.hid (HK.out.trans hk)
      clear hk
      go_wp2_with fail
      go_ret
      exact ⟨rfl, HK.out⟩
    | true =>
      have HM := Lib.hid hm
      have HMP := Lib.hid (makeP_yes hm)
      have HRM : Hid (readP (strB (blobP l)).data.toList = (l, offsP l, 0)) := read_make hm
      have hl1 : 1 ≤ l.length := (mayP_iff.1 hm).1
      have hl0 : 0 < l.length := hl1
      have hla : l.length ≤ 4096 := mayP_len hm
      have hta : total l ≤ 16384 := total_small hm
      have hsz : (strB (blobP l)).size = (headP l).length + total l := by rw [strB_size, blob_length, headP_length]
      have hhd : (headP l).length ≤ 10000 := by rw [headP_length]; omega
      have hb60 : (strB (blobP l)).size ≤ 60000 := by omega
      have HSZ := Lib.hid hsz
      clear hsz
      have HSA : Hid (∀ k, k < l.length → (atP l k).size ≤ 16384) := fun k hk => (mayP_size hm hk).2
      have HIN : Hid (∀ k, k < l.length → (strB (blobP l)).extract ((headP l).length + total (l.take k)) ((headP l).length + total (l.take k) + (atP l k).size) = atP l k) := fun k hk => chunk_in hk
      have HOL : Hid ((offsP l).length = l.length) := by show _ = _; unfold offsP; simp
      have HOF : Hid (∀ k (h : k < (offsP l).length), (offsP l)[k] = (((headP l).length + total (l.take k) : Nat) : Int)) := fun k h => by simp only [offsP, List.getElem_map, List.getElem_range]; rfl
      have HREV := Lib.hid (mayP_reverse hm)
      have HLESS : Hid (∀ k, k < l.length → mayP (lessP l k) = decide (0 < (lessP l k).length)) := fun k hk => mayP_less hm hk
      clear hm
      go_wp2_with fail
      refine Calls.mono (makeP_e (pmake_any _ l _ HA.out) HMP.out) ?_
      rintro e w6 ⟨v6, rfl, ha, hk⟩
      obtain ⟨p6, q6, rfl⟩ := seq_shape (SeqIn.at_ ha)
      have HO := Lib.hid (SeqIn.at_ ha)
      have HA := Lib.hid (SeqAt.keeps HA.out hk)
      have HK := Lib.hid (HK.out.trans hk)
      clear ha hk
      go_wp2_with fail
      refine Calls.mono (pmay_e _ l _ HA.out _ HM.out) ?_
      rintro e w7 ⟨rfl, hk⟩
      have HO := Lib.hid (SeqAt.keeps HO.out hk)
      have HA := Lib.hid (SeqAt.keeps HA.out hk)
      have HK := Lib.hid (HK.out.trans hk)
      clear hk
      go_wp2_with fail
      refine Calls.mono (readP_e (pread_any (strB (blobP l)) _ (by omega)) HRM.out) ?_
      rintro e w8 ⟨v8, u8, rfl, ha, hb, hk⟩
      have HL8 := Lib.hid (SeqIn.at_ ha)
      have HO8 := Lib.hid (SeqIn.at_ hb)
      have HO := Lib.hid (SeqAt.keeps HO.out hk)
      have HA := Lib.hid (SeqAt.keeps HA.out hk)
      have HK := Lib.hid (HK.out.trans hk)
      clear ha hb hk
      go_wp2_with fail
      refine Calls.mono (texts_same _ _ l _ HL8.out HA.out) ?_
      rintro e w9 ⟨rfl, hk⟩
      have HO8 := Lib.hid (SeqAt.keeps HO8.out hk)
      have HO := Lib.hid (SeqAt.keeps HO.out hk)
      have HA := Lib.hid (SeqAt.keeps HA.out hk)
      have HK := Lib.hid (HK.out.trans hk)
      clear hk HL8
      go_wp2_with fail
      refine Calls.mono (ints_same _ _ (offsP l) _ HO.out HO8.out) ?_
      rintro e w10 ⟨rfl, hk⟩
      have HO := Lib.hid (SeqAt.keeps HO.out hk)
      have HA := Lib.hid (SeqAt.keeps HA.out hk)
      have HK := Lib.hid (HK.out.trans hk)
      clear hk HO8
      rw [HOL.out]
      obtain ⟨b0, o0, c0, u0, e0, d0, r0⟩ := seq_cell HO.out (show 0 < (offsP l).length by rw [HOL.out]; omega)
      rw [HOF.out] at r0
      rw [HOL.out] at e0
      injection e0 with e1 e2 e3
      subst e1 e3
      unfold IsInt at r0
      subst r0
      have HZ0 : Hid ((((headP l).length + total (l.take 0) : Nat) : Int) = ((headP l).length : Int)) := by show _ = _; rw [List.take_zero]; rfl
      rw [HZ0.out, Nat.add_zero] at d0
      generalize strB (blobP l) = B at *
      generalize (headP l).length = hd at *
      clear e2
      go_wp2_with fail
      clear d0
      go_loopw [15, 16] (fun f i wr => ∃ (k n9 : Nat), k ≤ l.length ∧ i = .int .i64 k ∧ f = .int .i64 ((hd + total (l.take k) : Nat) : Int) ∧ wr = w10.drewN n9) (fun _ i _ => l.length - (intOf i).toNat)
      case atStart => exact ⟨0, 0, by omega, rfl, by rw [List.take_zero]; rfl, rfl⟩
      case round =>
        obtain ⟨k, n9, hk, rfl, rfl, rfl⟩ := hrel
        by_cases hlt : k < l.length
        · have hlt64 : (k : Int) < (l.length : Int) := by omega
          have hk0 : (0 : Int) ≤ (k : Int) := by omega
          obtain ⟨b1, o1, c1, u1, e1, d1, r1⟩ := seq_cell HA.out hlt
          injection e1 with e3 e4 e5
          subst e3 e5
          unfold IsText at r1
          subst r1
          rw [← atP_get hlt] at d1
          have d1' : (w10.drewN n9).cell? ⟨b1, o1 + k, none⟩ = some (.string (atP l k)) := d1
          obtain ⟨b2, o2, c2, u2, e2, d2, r2⟩ := seq_cell HO.out (show k < (offsP l).length by rw [HOL.out]; exact hlt)
          injection e2 with e6 e7 e8
          injection e6 with e6
          injection e6 with e9 e10 e11
          subst e9 e10
          unfold IsInt at r2
          rw [HOF.out] at r2
          subst r2
          have HT : Hid (hd + total (l.take (k + 1)) = hd + total (l.take k) + (atP l k).size) := by show _ = _; rw [total_take hlt]; omega
          have hs := HSA.out k hlt
          have htt := total_split hlt
          have HX := Lib.hid (HIN.out k hlt)
          have hfx : hd + total (l.take k) + (atP l k).size ≤ B.size := by have := HSZ.out; omega
          have hfs : hd + total (l.take k) + (atP l k).size ≤ 60000 := by have := hb60; omega
          have HFX := Lib.hid hfs
          have HFB := Lib.hid hfx
          generalize atP l k = x at *
          generalize hd + total (l.take k) = f at *
          have d2' : (w10.drewN n9).cell? ⟨b0, o0 + k, none⟩ = some (.int .i64 (f : Int)) := d2
          have g3 : decide ((B.size : Int) < (f : Int) + (x.size : Int)) = false := decide_eq_false (by omega)
          have hs5 := sum_i64 f x.size HFX.out
          have hs4 := sum_w64 f x.size HFX.out
          have rsl := slice_at B x f HFB.out HX.out
          have hxx : (x.toList == x.toList) = true := by simp
          clear e4 e7 e8 e11 htt
          go_wp2_with fail
          go_quiet (fail)
          go_wp2
          exact ⟨⟨k + 1, _, by omega, by go_num, by rw [HT.out]; go_num, (by first | rfl | exact drew_two _ _ _)⟩, by simp [intOf]; omega⟩
        · obtain rfl : k = l.length := by omega
          have hfl : Hid (hd + total (l.take l.length) = B.size) := by show _ = _; rw [List.take_length]; exact HSZ.out.symm
          rw [hfl.out]
          have HA : Hid (TextsAt (w10.drewN n9).heap (.slice pa l.length qa) l) := HA.out
          have HK : Hid (Keeps w (w10.drewN n9)) := HK.out
          generalize w10.drewN n9 = w11 at *
          obtain ⟨b5, o5, rfl⟩ := texts_addr HA.out (by omega)
          obtain ⟨κ, hκ, hke⟩ := rem_small n l.length (by omega) (by omega)
          have HKE := Lib.hid hke
          have hN : Hid (∀ w1 : World, Keeps w11 w1 → w11.heap.size ≤ w1.heap.size) := fun _ h => h.size
          clear hke
          go_wp2_with fail
          rw [HKE.out]
          refine wp_region_line [164, 165, 166, 167, 168, 169, 170, 171, 172, 173, 18] [[], [], [], [1, 2], [0, 3], [], [], [6], [5, 7], [4, 8], [9]] [[], [], [], [], [0], [], [], [], [], [0, 4], []] (lessG w11.heap.size l κ b5 o5 qa) (by kernel_rfl) (by kernel_rfl) (by kernel_rfl) (by kernel_rfl) (by kernel_rfl) (by kernel_rfl) ?_ ?_ ?_
          · repeat (first | exact trivial | (refine ⟨guard_none rfl, ?_⟩))
          · refine ⟨?_, ?_, ?_, ?_, ?_, ?_, ?_, ?_, ?_, ?_, ?_, trivial⟩
            · intro a w1 vs hk ho hn K hK
              clear hn ho
              go_simp
              exact hK _ _ (hk.alloc (Nat.le_refl _) _) (fun j u _ _ _ _ hg => lessG_alloc hg _) (own_empty w1 w11.heap.size 9 hk.size)
            · intro a w1 vs hk ho hn K hK
              have e0 : a.tmps[0]? = some (.slice (some ⟨b5, o5, none⟩) l.length qa) := ho 0 rfl
              clear hn ho
              go_simp
              exact hK _ _ hk (fun _ _ _ _ _ _ h => h) rfl
            · intro a w1 vs hk ho hn K hK
              have e17 : a.tmps[17]? = some (.int .i64 (κ : Int)) := ho 17 rfl
              clear hn ho
              go_simp
              exact hK _ _ hk (fun _ _ _ _ _ _ h => h) rfl
            · intro a w1 vs hk ho hn K hK
              obtain ⟨e1, g1⟩ : a.tmps[165]? = some (vs 1) ∧ vs 1 = .slice (some ⟨b5, o5, none⟩) l.length qa := hn 1 (by decide)
              obtain ⟨e2, g2⟩ : a.tmps[166]? = some (vs 2) ∧ vs 2 = .int .i64 (κ : Int) := hn 2 (by decide)
              rw [g1] at e1
              rw [g2] at e2
              clear hn ho g1 g2
              have f1 : (0 : Int) ≤ (κ : Int) := by omega
              have f2 : (κ : Int) ≤ (qa : Int) := by omega
              have f3 : κ ≤ qa := by omega
              go_simp
              exact hK _ _ hk (fun _ _ _ _ _ _ h => h) rfl
            · intro a w1 vs hk ho hn K hK
              obtain ⟨e0, g0⟩ : a.tmps[164]? = some (vs 0) ∧ w1.ownsRow w11.heap.size 9 1 (vs 0) 0 [] := hn 0 (by decide)
              obtain ⟨e3, g3⟩ : a.tmps[167]? = some (vs 3) ∧ vs 3 = .slice (some ⟨b5, o5, none⟩) κ qa := hn 3 (by decide)
              rw [g3] at e3
              clear hn ho g3
              have HA1 := textsV_take (SeqAt.keeps HA.out hk) κ
              have hls : (textsV (l.take κ)).length = κ := by rw [textsV_length, List.length_take]; omega
              refine oper_apps elText rfl (.tmp 164) (.tmp 167) rfl w11.heap.size (vs 0) [] (by simp [Act.eval, e0]) g0 b5 o5 κ qa (textsV (l.take κ)) (by simp [Act.eval, e3]) hls HA1 (textsV_one _) (by rw [hls]; simp; omega) hk.size ?_
              intro v' w' hown hchg
              refine hK v' w' (hk.then (Chg.kept (hchg.mono (T' := fun b => w11.heap.size ≤ b) fun b _ hb => (own_block g0 b hb).1) hk.size) (Nat.le_refl _)) (fun j u h1 h2 h3 h4 hg => ?_) ?_
              · have k0 : j ≠ 0 := fun e => by subst e; cases h1
                have k9 : j ≠ 9 := fun e => by subst e; cases h3
                have k10 : j ≠ 10 := fun e => by subst e; cases h4
                exact lessG_same hg k0 h2 k9 k10
              · show World.ownsRow _ _ _ _ _ _ _
                have h := hown
                rw [hls] at h
                simpa using h
            · intro a w1 vs hk ho hn K hK
              have e0 : a.tmps[0]? = some (.slice (some ⟨b5, o5, none⟩) l.length qa) := ho 0 rfl
              clear hn ho
              go_simp
              exact hK _ _ hk (fun _ _ _ _ _ _ h => h) rfl
            · intro a w1 vs hk ho hn K hK
              have e17 : a.tmps[17]? = some (.int .i64 (κ : Int)) := ho 17 rfl
              clear hn ho
              go_simp
              exact hK _ _ hk (fun _ _ _ _ _ _ h => h) rfl
            · intro a w1 vs hk ho hn K hK
              obtain ⟨e2, g2⟩ : a.tmps[170]? = some (vs 6) ∧ vs 6 = .int .i64 (κ : Int) := hn 6 (by decide)
              rw [g2] at e2
              clear hn ho g2
              have f4 : IntKind.i64.wrap ((κ : Int) + 1) = (κ : Int) + 1 := sum_i64 κ 1 (by omega)
              go_simp
              exact hK _ _ hk (fun _ _ _ _ _ _ h => h) rfl
            · intro a w1 vs hk ho hn K hK
              obtain ⟨e1, g1⟩ : a.tmps[169]? = some (vs 5) ∧ vs 5 = .slice (some ⟨b5, o5, none⟩) l.length qa := hn 5 (by decide)
              obtain ⟨e2, g2⟩ : a.tmps[171]? = some (vs 7) ∧ vs 7 = .int .i64 ((κ : Int) + 1) := hn 7 (by decide)
              rw [g1] at e1
              rw [g2] at e2
              clear hn ho g1 g2
              have f1 : (0 : Int) ≤ (κ : Int) + 1 := by omega
              have f2 : (κ : Int) + 1 ≤ (l.length : Int) := by omega
              have f3 : ((κ : Int) + 1).toNat = κ + 1 := by omega
              have f5 : κ + 1 ≤ l.length := by omega
              go_simp
              exact hK _ _ hk (fun _ _ _ _ _ _ h => h) rfl
            · intro a w1 vs hk ho hn K hK
              obtain ⟨e0, g0⟩ : a.tmps[168]? = some (vs 4) ∧ w1.ownsRow w11.heap.size 9 1 (vs 4) κ (textsV (l.take κ)) := hn 4 (by decide)
              obtain ⟨e3, g3⟩ : a.tmps[172]? = some (vs 8) ∧ vs 8 = .slice (if qa = κ + 1 then some ⟨b5, o5, none⟩ else some ⟨b5, o5 + (κ + 1), none⟩) (l.length - (κ + 1)) (qa - (κ + 1)) := hn 8 (by decide)
              clear hn ho
              have HA1 := textsV_drop (SeqAt.keeps HA.out hk) (κ + 1)
              have hls : (textsV (l.take κ)).length = κ := by rw [textsV_length, List.length_take]; omega
              have hld : (textsV (l.drop (κ + 1))).length = l.length - (κ + 1) := by rw [textsV_length, List.length_drop]
              obtain ⟨off, hoff, hcell⟩ : ∃ off, (if qa = κ + 1 then some (⟨b5, o5, none⟩ : Addr) else some ⟨b5, o5 + (κ + 1), none⟩) = some ⟨b5, off, none⟩ ∧ ∀ j (h : j < (textsV (l.drop (κ + 1))).length), w1.cell? ⟨b5, off + j, none⟩ = some (textsV (l.drop (κ + 1)))[j] := by
                by_cases hq : qa = κ + 1
                · exact ⟨o5, if_pos hq, fun j h => absurd h (by rw [hld]; omega)⟩
                · exact ⟨_, if_neg hq, HA1⟩
              rw [g3, hoff] at e3
              clear g3 hoff
              refine oper_apps elText rfl (.tmp 168) (.tmp 172) rfl w11.heap.size (vs 4) (textsV (l.take κ)) (by simp [Act.eval, e0]) (by rw [hls]; exact g0) b5 off (l.length - (κ + 1)) (qa - (κ + 1)) (textsV (l.drop (κ + 1))) (by simp [Act.eval, e3]) hld hcell (textsV_one _) (by rw [hls, hld]; omega) hk.size ?_
              intro v' w' hown hchg
              refine hK v' w' (hk.then (Chg.kept (hchg.mono (T' := fun b => w11.heap.size ≤ b) fun b _ hb => (own_block g0 b hb).1) hk.size) (Nat.le_refl _)) (fun j u h1 h2 h3 h4 hg => ?_) ?_
              · have k0 : j ≠ 0 := fun e => by subst e; cases h1
                have k4 : j ≠ 4 := fun e => by subst e; cases h1
                have k10 : j ≠ 10 := fun e => by subst e; cases h3
                exact lessG_same hg k0 k4 h2 k10
              · show OwnSeq _ _ _ _ _ _
                have h := hown
                rw [hls, hld] at h
                refine texts_own ?_
                rw [lessP_length hκ]
                have e9 : textsV (l.take κ) ++ textsV (l.drop (κ + 1)) = textsV (lessP l κ) := by unfold textsV lessP; rw [List.map_append]
                rw [← e9]
                have e10 : κ + (l.length - (κ + 1)) = l.length - 1 := by omega
                rw [← e10]
                exact h
            · intro a w1 vs hk ho hn K hK
              obtain ⟨e2, g2⟩ : a.tmps[173]? = some (vs 9) ∧ OwnSeq w11.heap.size 9 IsText w1 (vs 9) (lessP l κ) := hn 9 (by decide)
              clear hn ho
              go_simp
              exact hK _ _ hk (fun _ _ _ _ _ _ h => h) g2
          · intro vs w12 hk hG
            have g2 : OwnSeq w11.heap.size 9 IsText w12 (vs 10) (lessP l κ) := hG 10 (by decide) (by decide)
            have HLE := HLESS.out κ hκ
            have hll := lessP_length hκ
            obtain ⟨vl, hvl⟩ : ∃ v, vs 10 = v := ⟨_, rfl⟩
            rw [hvl] at g2
            have g3 : SeqIn (w11.heap.size ≤ ·) 9 IsText w12.heap vl (lessP l κ) := g2.seq (by rw [hll]; omega)
            obtain ⟨pl, ql, rfl⟩ := seq_shape (SeqIn.at_ g3)
            have HLS := Lib.hid (SeqIn.at_ g3)
            have HK := Lib.hid (HK.out.trans hk)
            have HA := Lib.hid (SeqAt.keeps HA.out hk)
            have hml : (lessP l κ).length ≤ 4096 := by omega
            have HLE := Lib.hid HLE
            clear hG hk g2 g3 hll
            generalize lessP l κ = lp at *
            simp only [setAll, Nat.zero_add, Nat.reduceAdd, List.setIfInBounds_toArray, List.set_cons_zero, List.set_cons_succ, hvl]
            clear hvl
            generalize vs 0 = x0
            generalize vs 1 = x1
            generalize vs 2 = x2
            generalize vs 3 = x3
            generalize vs 4 = x4
            generalize vs 5 = x5
            generalize vs 6 = x6
            generalize vs 7 = x7
            generalize vs 8 = x8
            generalize vs 9 = x9
            go_wp2_with fail
            go_loopw [19, 20] (fun u i wr => ∃ (k : Nat) (iv : Int), k ≤ l.length ∧ i = .int .i64 iv ∧ iv = (k : Int) - 1 ∧ Hid (OwnSeq w12.heap.size 9 IsText wr u ((l.drop k).reverse)) ∧ Hid (Keeps w12 wr)) (fun _ i _ => (intOf i + 1).toNat)
            case atStart => exact ⟨l.length, _, Nat.le_refl _, rfl, by go_num, (by rw [List.drop_length]; exact OwnSeq.nil _ _ _ _), keeps_refl _⟩
            case round =>
              obtain ⟨k, iv, hk, rfl, hiv, hO, hK⟩ := hrel
              rcases k with _ | m
              · obtain rfl : iv = -1 := by omega
                have HBT : Hid (SeqIn (w12.heap.size ≤ ·) 9 IsText wr.heap u19 l.reverse) := by have := hO.out.seq (by simp; omega); rwa [List.drop_zero] at this
                have HLS := Lib.hid (SeqAt.keeps HLS.out hK.out)
                have HK := Lib.hid (HK.out.trans hK.out)
                clear hO hiv
                by_cases hp : 0 < lp.length
                · have p1 : decide ((0 : Int) < (lp.length : Int)) = true := decide_eq_true (by omega)
                  have p2 : decide (0 < lp.length) = true := decide_eq_true hp
                  have HLE : Hid (mayP lp = true) := HLE.out.trans p2
                  go_wp2_with fail
                  refine Calls.mono (pmay_e _ lp _ HLS.out _ HLE.out) ?_
                  rintro e w13 ⟨rfl, hk⟩
                  have HBT := Lib.hid (SeqAt.keeps (SeqIn.at_ HBT.out) hk)
                  have HK := Lib.hid (HK.out.trans hk)
                  clear hk
                  go_wp2_with fail
                  refine Calls.mono (pmay_e _ l.reverse _ HBT.out _ HREV.out) ?_
                  rintro e w14 ⟨rfl, hk⟩
                  have HK := Lib.hid (HK.out.trans hk)
                  clear hk
                  go_wp2_with fail
                  go_ret
                  exact ⟨rfl, HK.out⟩
                · have p1 : decide ((0 : Int) < (lp.length : Int)) = false := decide_eq_false (by omega)
                  have p2 : decide (0 < lp.length) = false := decide_eq_false hp
                  have HLE : Hid (mayP lp = false) := HLE.out.trans p2
                  go_wp2_with fail
                  refine Calls.mono (pmay_e _ lp _ HLS.out _ HLE.out) ?_
                  rintro e w13 ⟨rfl, hk⟩
                  have HBT := Lib.hid (SeqAt.keeps (SeqIn.at_ HBT.out) hk)
                  have HK := Lib.hid (HK.out.trans hk)
                  clear hk
                  go_wp2_with fail
                  refine Calls.mono (pmay_e _ l.reverse _ HBT.out _ HREV.out) ?_
                  rintro e w14 ⟨rfl, hk⟩
                  have HK := Lib.hid (HK.out.trans hk)
                  clear hk
                  go_wp2_with fail
                  go_ret
                  exact ⟨rfl, HK.out⟩
              · obtain rfl : iv = (m : Int) := by omega
                clear hiv
                have hm64 : (m : Int) < (l.length : Int) := by omega
                have hm0 : (0 : Int) ≤ (m : Int) := by omega
                have hmn : m < l.length := by omega
                obtain ⟨b1, o1, c1, u1, e1, d1, r1⟩ := seq_cell (SeqAt.keeps HA.out hK.out) hmn
                injection e1 with e3 e4 e5
                subst e5
                injection e3 with e3
                injection e3 with e6 e7 e8
                subst e6 e7
                unfold IsText at r1
                subst r1
                rw [← atP_get hmn] at d1
                have HRV : Hid ((l.drop m).reverse = (l.drop (m + 1)).reverse ++ [atP l m]) := by show _ = _; rw [List.drop_eq_getElem_cons hmn, List.reverse_cons, atP_get hmn]
                obtain ⟨us, hu1, hu2, hu3⟩ := hO.out
                have hul : us.length ≤ 4096 := by rw [hu2]; simp; omega
                have HU := Lib.hid hu1
                have HL2 := Lib.hid hu2
                have HL3 := Lib.hid hul
                have H3 := Lib.hid hu3
                have hsz5 := hK.out.size
                generalize atP l m = x at *
                clear hu1 hu2 hul hu3 e4 e8
                go_wp2_with (at_builtin; refine wp_app1 elText rfl _ _ rfl w12.heap.size u19 us rfl (HU.out.alloc _) _ (.string x) rfl ?q1 rfl ?q2 ?q3 ?_)
                case q1 => first | exact World.cell?_alloc_new _ _ _ _ | simp [go_sem]
                case q2 => have := HL3.out; omega
                case q3 => simp; omega
                intro v' w13 hown hchg
                have hpush : Hid (OwnSeq w12.heap.size 9 IsText w13 v' ((l.drop m).reverse)) := by show OwnSeq _ _ _ _ _ _; rw [HRV.out]; exact OwnSeq.push (R := IsText) HL2.out H3.out hown (fun _ _ _ x => x) rfl
                have hc6 : Chg (fun b => u19.ownBlock = some b) wr w13 := ((Chg.refl _ wr).alloc _).trans hchg
                have HK6 : Hid (Keeps w12 w13) := hK.out.then (Chg.kept (hc6.mono (T' := fun b => w12.heap.size ≤ b) fun b _ hb => (own_block HU.out b hb).1) hsz5) (Nat.le_refl _)
                clear hown hchg hc6
                go_wp2_with fail
                exact ⟨⟨m, _, by omega, rfl, by go_num, hpush, HK6⟩, by first | (simp [intOf]; done) | (simp [intOf]; omega)⟩
  · have HR := Lib.hid hr
    clear hr
    go_wp2_with fail
    refine Calls.mono (readP_e (pread_any s _ (by omega)) HR.out) ?_
    rintro e w2 ⟨v2, u2, rfl, ha, hb, hk⟩
    have HA := Lib.hid (SeqAt.keeps HA.out hk)
    have HK := Lib.hid (HK.out.trans hk)
    clear ha hb hk
    cases hm : mayP l with
    | false =>
      have HM := Lib.hid hm
      have HMP := Lib.hid (makeP_no hm)
      clear hm
      go_wp2_with fail
      refine Calls.mono (makeP_e (pmake_any _ l _ HA.out) HMP.out) ?_
      rintro e w6 ⟨v6, rfl, _, hk⟩
      have HA := Lib.hid (SeqAt.keeps HA.out hk)
      have HK := Lib.hid (HK.out.trans hk)
      clear hk
      go_wp2_with fail
      refine Calls.mono (pmay_e _ l _ HA.out _ HM.out) ?_
      rintro e w7 ⟨rfl, hk⟩
      have HA := Lib.hid (SeqAt.keeps HA.out hk)
      have HK := Lib.hid (HK.out.trans hk)
      clear hk
      go_wp2_with fail
      refine Calls.mono (pmay_e _ l _ HA.out _ HM.out) ?_
      rintro e w8 ⟨rfl, hk⟩
      have HK := Lib.hid (HK.out.trans hk)
      clear hk
      go_wp2_with fail
      go_ret
      exact ⟨rfl, HK.out⟩
    | true =>
      have HM := Lib.hid hm
      have HMP := Lib.hid (makeP_yes hm)
      have HRM : Hid (readP (strB (blobP l)).data.toList = (l, offsP l, 0)) := read_make hm
      have hl1 : 1 ≤ l.length := (mayP_iff.1 hm).1
      have hl0 : 0 < l.length := hl1
      have hla : l.length ≤ 4096 := mayP_len hm
      have hta : total l ≤ 16384 := total_small hm
      have hsz : (strB (blobP l)).size = (headP l).length + total l := by rw [strB_size, blob_length, headP_length]
      have hhd : (headP l).length ≤ 10000 := by rw [headP_length]; omega
      have hb60 : (strB (blobP l)).size ≤ 60000 := by omega
      have HSZ := Lib.hid hsz
      clear hsz
      have HSA : Hid (∀ k, k < l.length → (atP l k).size ≤ 16384) := fun k hk => (mayP_size hm hk).2
      have HIN : Hid (∀ k, k < l.length → (strB (blobP l)).extract ((headP l).length + total (l.take k)) ((headP l).length + total (l.take k) + (atP l k).size) = atP l k) := fun k hk => chunk_in hk
      have HOL : Hid ((offsP l).length = l.length) := by show _ = _; unfold offsP; simp
      have HOF : Hid (∀ k (h : k < (offsP l).length), (offsP l)[k] = (((headP l).length + total (l.take k) : Nat) : Int)) := fun k h => by simp only [offsP, List.getElem_map, List.getElem_range]; rfl
      have HREV := Lib.hid (mayP_reverse hm)
      have HLESS : Hid (∀ k, k < l.length → mayP (lessP l k) = decide (0 < (lessP l k).length)) := fun k hk => mayP_less hm hk
      clear hm
      go_wp2_with fail
      refine Calls.mono (makeP_e (pmake_any _ l _ HA.out) HMP.out) ?_
      rintro e w6 ⟨v6, rfl, ha, hk⟩
      obtain ⟨p6, q6, rfl⟩ := seq_shape (SeqIn.at_ ha)
      have HO := Lib.hid (SeqIn.at_ ha)
      have HA := Lib.hid (SeqAt.keeps HA.out hk)
      have HK := Lib.hid (HK.out.trans hk)
      clear ha hk
      go_wp2_with fail
      refine Calls.mono (pmay_e _ l _ HA.out _ HM.out) ?_
      rintro e w7 ⟨rfl, hk⟩
      have HO := Lib.hid (SeqAt.keeps HO.out hk)
      have HA := Lib.hid (SeqAt.keeps HA.out hk)
      have HK := Lib.hid (HK.out.trans hk)
      clear hk
      go_wp2_with fail
      refine Calls.mono (readP_e (pread_any (strB (blobP l)) _ (by omega)) HRM.out) ?_
      rintro e w8 ⟨v8, u8, rfl, ha, hb, hk⟩
      have HL8 := Lib.hid (SeqIn.at_ ha)
      have HO8 := Lib.hid (SeqIn.at_ hb)
      have HO := Lib.hid (SeqAt.keeps HO.out hk)
      have HA := Lib.hid (SeqAt.keeps HA.out hk)
      have HK := Lib.hid (HK.out.trans hk)
      clear ha hb hk
      go_wp2_with fail
      refine Calls.mono (texts_same _ _ l _ HL8.out HA.out) ?_
      rintro e w9 ⟨rfl, hk⟩
      have HO8 := Lib.hid (SeqAt.keeps HO8.out hk)
      have HO := Lib.hid (SeqAt.keeps HO.out hk)
      have HA := Lib.hid (SeqAt.keeps HA.out hk)
      have HK := Lib.hid (HK.out.trans hk)
      clear hk HL8
      go_wp2_with fail
      refine Calls.mono (ints_same _ _ (offsP l) _ HO.out HO8.out) ?_
      rintro e w10 ⟨rfl, hk⟩
      have HO := Lib.hid (SeqAt.keeps HO.out hk)
      have HA := Lib.hid (SeqAt.keeps HA.out hk)
      have HK := Lib.hid (HK.out.trans hk)
      clear hk HO8
      rw [HOL.out]
      obtain ⟨b0, o0, c0, u0, e0, d0, r0⟩ := seq_cell HO.out (show 0 < (offsP l).length by rw [HOL.out]; omega)
      rw [HOF.out] at r0
      rw [HOL.out] at e0
      injection e0 with e1 e2 e3
      subst e1 e3
      unfold IsInt at r0
      subst r0
      have HZ0 : Hid ((((headP l).length + total (l.take 0) : Nat) : Int) = ((headP l).length : Int)) := by show _ = _; rw [List.take_zero]; rfl
      rw [HZ0.out, Nat.add_zero] at d0
      generalize strB (blobP l) = B at *
      generalize (headP l).length = hd at *
      clear e2
      go_wp2_with fail
      clear d0
      go_loopw [15, 16] (fun f i wr => ∃ (k n9 : Nat), k ≤ l.length ∧ i = .int .i64 k ∧ f = .int .i64 ((hd + total (l.take k) : Nat) : Int) ∧ wr = w10.drewN n9) (fun _ i _ => l.length - (intOf i).toNat)
      case atStart => exact ⟨0, 0, by omega, rfl, by rw [List.take_zero]; rfl, rfl⟩
      case round =>
        obtain ⟨k, n9, hk, rfl, rfl, rfl⟩ := hrel
        by_cases hlt : k < l.length
        · have hlt64 : (k : Int) < (l.length : Int) := by omega
          have hk0 : (0 : Int) ≤ (k : Int) := by omega
          obtain ⟨b1, o1, c1, u1, e1, d1, r1⟩ := seq_cell HA.out hlt
          injection e1 with e3 e4 e5
          subst e3 e5
          unfold IsText at r1
          subst r1
          rw [← atP_get hlt] at d1
          have d1' : (w10.drewN n9).cell? ⟨b1, o1 + k, none⟩ = some (.string (atP l k)) := d1
          obtain ⟨b2, o2, c2, u2, e2, d2, r2⟩ := seq_cell HO.out (show k < (offsP l).length by rw [HOL.out]; exact hlt)
          injection e2 with e6 e7 e8
          injection e6 with e6
          injection e6 with e9 e10 e11
          subst e9 e10
          unfold IsInt at r2
          rw [HOF.out] at r2
          subst r2
          have HT : Hid (hd + total (l.take (k + 1)) = hd + total (l.take k) + (atP l k).size) := by show _ = _; rw [total_take hlt]; omega
          have hs := HSA.out k hlt
          have htt := total_split hlt
          have HX := Lib.hid (HIN.out k hlt)
          have hfx : hd + total (l.take k) + (atP l k).size ≤ B.size := by have := HSZ.out; omega
          have hfs : hd + total (l.take k) + (atP l k).size ≤ 60000 := by have := hb60; omega
          have HFX := Lib.hid hfs
          have HFB := Lib.hid hfx
          generalize atP l k = x at *
          generalize hd + total (l.take k) = f at *
          have d2' : (w10.drewN n9).cell? ⟨b0, o0 + k, none⟩ = some (.int .i64 (f : Int)) := d2
          have g3 : decide ((B.size : Int) < (f : Int) + (x.size : Int)) = false := decide_eq_false (by omega)
          have hs5 := sum_i64 f x.size HFX.out
          have hs4 := sum_w64 f x.size HFX.out
          have rsl := slice_at B x f HFB.out HX.out
          have hxx : (x.toList == x.toList) = true := by simp
          clear e4 e7 e8 e11 htt
          go_wp2_with fail
          go_quiet (fail)
          go_wp2
          exact ⟨⟨k + 1, _, by omega, by go_num, by rw [HT.out]; go_num, (by first | rfl | exact drew_two _ _ _)⟩, by simp [intOf]; omega⟩
        · obtain rfl : k = l.length := by omega
          have hfl : Hid (hd + total (l.take l.length) = B.size) := by show _ = _; rw [List.take_length]; exact HSZ.out.symm
          rw [hfl.out]
          have HA : Hid (TextsAt (w10.drewN n9).heap (.slice pa l.length qa) l) := HA.out
          have HK : Hid (Keeps w (w10.drewN n9)) := HK.out
          generalize w10.drewN n9 = w11 at *
          obtain ⟨b5, o5, rfl⟩ := texts_addr HA.out (by omega)
          obtain ⟨κ, hκ, hke⟩ := rem_small n l.length (by omega) (by omega)
          have HKE := Lib.hid hke
          have hN : Hid (∀ w1 : World, Keeps w11 w1 → w11.heap.size ≤ w1.heap.size) := fun _ h => h.size
          clear hke
          go_wp2_with fail
          rw [HKE.out]
          refine wp_region_line [164, 165, 166, 167, 168, 169, 170, 171, 172, 173, 18] [[], [], [], [1, 2], [0, 3], [], [], [6], [5, 7], [4, 8], [9]] [[], [], [], [], [0], [], [], [], [], [0, 4], []] (lessG w11.heap.size l κ b5 o5 qa) (by kernel_rfl) (by kernel_rfl) (by kernel_rfl) (by kernel_rfl) (by kernel_rfl) (by kernel_rfl) ?_ ?_ ?_
          · repeat (first | exact trivial | (refine ⟨guard_none rfl, ?_⟩))
          · refine ⟨?_, ?_, ?_, ?_, ?_, ?_, ?_, ?_, ?_, ?_, ?_, trivial⟩
            · intro a w1 vs hk ho hn K hK
              clear hn ho
              go_simp
              exact hK _ _ (hk.alloc (Nat.le_refl _) _) (fun j u _ _ _ _ hg => lessG_alloc hg _) (own_empty w1 w11.heap.size 9 hk.size)
            · intro a w1 vs hk ho hn K hK
              have e0 : a.tmps[0]? = some (.slice (some ⟨b5, o5, none⟩) l.length qa) := ho 0 rfl
              clear hn ho
              go_simp
              exact hK _ _ hk (fun _ _ _ _ _ _ h => h) rfl
            · intro a w1 vs hk ho hn K hK
              have e17 : a.tmps[17]? = some (.int .i64 (κ : Int)) := ho 17 rfl
              clear hn ho
              go_simp
              exact hK _ _ hk (fun _ _ _ _ _ _ h => h) rfl
            · intro a w1 vs hk ho hn K hK
              obtain ⟨e1, g1⟩ : a.tmps[165]? = some (vs 1) ∧ vs 1 = .slice (some ⟨b5, o5, none⟩) l.length qa := hn 1 (by decide)
              obtain ⟨e2, g2⟩ : a.tmps[166]? = some (vs 2) ∧ vs 2 = .int .i64 (κ : Int) := hn 2 (by decide)
              rw [g1] at e1
              rw [g2] at e2
              clear hn ho g1 g2
              have f1 : (0 : Int) ≤ (κ : Int) := by omega
              have f2 : (κ : Int) ≤ (qa : Int) := by omega
              have f3 : κ ≤ qa := by omega
              go_simp
              exact hK _ _ hk (fun _ _ _ _ _ _ h => h) rfl
            · intro a w1 vs hk ho hn K hK
              obtain ⟨e0, g0⟩ : a.tmps[164]? = some (vs 0) ∧ w1.ownsRow w11.heap.size 9 1 (vs 0) 0 [] := hn 0 (by decide)
              obtain ⟨e3, g3⟩ : a.tmps[167]? = some (vs 3) ∧ vs 3 = .slice (some ⟨b5, o5, none⟩) κ qa := hn 3 (by decide)
              rw [g3] at e3
              clear hn ho g3
              have HA1 := textsV_take (SeqAt.keeps HA.out hk) κ
              have hls : (textsV (l.take κ)).length = κ := by rw [textsV_length, List.length_take]; omega
              refine oper_apps elText rfl (.tmp 164) (.tmp 167) rfl w11.heap.size (vs 0) [] (by simp [Act.eval, e0]) g0 b5 o5 κ qa (textsV (l.take κ)) (by simp [Act.eval, e3]) hls HA1 (textsV_one _) (by rw [hls]; simp; omega) hk.size ?_
              intro v' w' hown hchg
              refine hK v' w' (hk.then (Chg.kept (hchg.mono (T' := fun b => w11.heap.size ≤ b) fun b _ hb => (own_block g0 b hb).1) hk.size) (Nat.le_refl _)) (fun j u h1 h2 h3 h4 hg => ?_) ?_
              · have k0 : j ≠ 0 := fun e => by subst e; cases h1
                have k9 : j ≠ 9 := fun e => by subst e; cases h3
                have k10 : j ≠ 10 := fun e => by subst e; cases h4
                exact lessG_same hg k0 h2 k9 k10
              · show World.ownsRow _ _ _ _ _ _ _
                have h := hown
                rw [hls] at h
                simpa using h
            · intro a w1 vs hk ho hn K hK
              have e0 : a.tmps[0]? = some (.slice (some ⟨b5, o5, none⟩) l.length qa) := ho 0 rfl
              clear hn ho
              go_simp
              exact hK _ _ hk (fun _ _ _ _ _ _ h => h) rfl
            · intro a w1 vs hk ho hn K hK
              have e17 : a.tmps[17]? = some (.int .i64 (κ : Int)) := ho 17 rfl
              clear hn ho
              go_simp
              exact hK _ _ hk (fun _ _ _ _ _ _ h => h) rfl
            · intro a w1 vs hk ho hn K hK
              obtain ⟨e2, g2⟩ : a.tmps[170]? = some (vs 6) ∧ vs 6 = .int .i64 (κ : Int) := hn 6 (by decide)
              rw [g2] at e2
              clear hn ho g2
              have f4 : IntKind.i64.wrap ((κ : Int) + 1) = (κ : Int) + 1 := sum_i64 κ 1 (by omega)
              go_simp
              exact hK _ _ hk (fun _ _ _ _ _ _ h => h) rfl
            · intro a w1 vs hk ho hn K hK
              obtain ⟨e1, g1⟩ : a.tmps[169]? = some (vs 5) ∧ vs 5 = .slice (some ⟨b5, o5, none⟩) l.length qa := hn 5 (by decide)
              obtain ⟨e2, g2⟩ : a.tmps[171]? = some (vs 7) ∧ vs 7 = .int .i64 ((κ : Int) + 1) := hn 7 (by decide)
              rw [g1] at e1
              rw [g2] at e2
              clear hn ho g1 g2
              have f1 : (0 : Int) ≤ (κ : Int) + 1 := by omega
              have f2 : (κ : Int) + 1 ≤ (l.length : Int) := by omega
              have f3 : ((κ : Int) + 1).toNat = κ + 1 := by omega
              have f5 : κ + 1 ≤ l.length := by omega
              go_simp
              exact hK _ _ hk (fun _ _ _ _ _ _ h => h) rfl
            · intro a w1 vs hk ho hn K hK
              obtain ⟨e0, g0⟩ : a.tmps[168]? = some (vs 4) ∧ w1.ownsRow w11.heap.size 9 1 (vs 4) κ (textsV (l.take κ)) := hn 4 (by decide)
              obtain ⟨e3, g3⟩ : a.tmps[172]? = some (vs 8) ∧ vs 8 = .slice (if qa = κ + 1 then some ⟨b5, o5, none⟩ else some ⟨b5, o5 + (κ + 1), none⟩) (l.length - (κ + 1)) (qa - (κ + 1)) := hn 8 (by decide)
              clear hn ho
              have HA1 := textsV_drop (SeqAt.keeps HA.out hk) (κ + 1)
              have hls : (textsV (l.take κ)).length = κ := by rw [textsV_length, List.length_take]; omega
              have hld : (textsV (l.drop (κ + 1))).length = l.length - (κ + 1) := by rw [textsV_length, List.length_drop]
              obtain ⟨off, hoff, hcell⟩ : ∃ off, (if qa = κ + 1 then some (⟨b5, o5, none⟩ : Addr) else some ⟨b5, o5 + (κ + 1), none⟩) = some ⟨b5, off, none⟩ ∧ ∀ j (h : j < (textsV (l.drop (κ + 1))).length), w1.cell? ⟨b5, off + j, none⟩ = some (textsV (l.drop (κ + 1)))[j] := by
                by_cases hq : qa = κ + 1
                · exact ⟨o5, if_pos hq, fun j h => absurd h (by rw [hld]; omega)⟩
                · exact ⟨_, if_neg hq, HA1⟩
              rw [g3, hoff] at e3
              clear g3 hoff
              refine oper_apps elText rfl (.tmp 168) (.tmp 172) rfl w11.heap.size (vs 4) (textsV (l.take κ)) (by simp [Act.eval, e0]) (by rw [hls]; exact g0) b5 off (l.length - (κ + 1)) (qa - (κ + 1)) (textsV (l.drop (κ + 1))) (by simp [Act.eval, e3]) hld hcell (textsV_one _) (by rw [hls, hld]; omega) hk.size ?_
              intro v' w' hown hchg
              refine hK v' w' (hk.then (Chg.kept (hchg.mono (T' := fun b => w11.heap.size ≤ b) fun b _ hb => (own_block g0 b hb).1) hk.size) (Nat.le_refl _)) (fun j u h1 h2 h3 h4 hg => ?_) ?_
              · have k0 : j ≠ 0 := fun e => by subst e; cases h1
                have k4 : j ≠ 4 := fun e => by subst e; cases h1
                have k10 : j ≠ 10 := fun e => by subst e; cases h3
                exact lessG_same hg k0 k4 h2 k10
              · show OwnSeq _ _ _ _ _ _
                have h := hown
                rw [hls, hld] at h
                refine texts_own ?_
                rw [lessP_length hκ]
                have e9 : textsV (l.take κ) ++ textsV (l.drop (κ + 1)) = textsV (lessP l κ) := by unfold textsV lessP; rw [List.map_append]
                rw [← e9]
                have e10 : κ + (l.length - (κ + 1)) = l.length - 1 := by omega
                rw [← e10]
                exact h
            · intro a w1 vs hk ho hn K hK
              obtain ⟨e2, g2⟩ : a.tmps[173]? = some (vs 9) ∧ OwnSeq w11.heap.size 9 IsText w1 (vs 9) (lessP l κ) := hn 9 (by decide)
              clear hn ho
              go_simp
              exact hK _ _ hk (fun _ _ _ _ _ _ h => h) g2
          · intro vs w12 hk hG
            have g2 : OwnSeq w11.heap.size 9 IsText w12 (vs 10) (lessP l κ) := hG 10 (by decide) (by decide)
            have HLE := HLESS.out κ hκ
            have hll := lessP_length hκ
            obtain ⟨vl, hvl⟩ : ∃ v, vs 10 = v := ⟨_, rfl⟩
            rw [hvl] at g2
            have g3 : SeqIn (w11.heap.size ≤ ·) 9 IsText w12.heap vl (lessP l κ) := g2.seq (by rw [hll]; omega)
            obtain ⟨pl, ql, rfl⟩ := seq_shape (SeqIn.at_ g3)
            have HLS := Lib.hid (SeqIn.at_ g3)
            have HK := Lib.hid (HK.out.trans hk)
            have HA := Lib.hid (SeqAt.keeps HA.out hk)
            have hml : (lessP l κ).length ≤ 4096 := by omega
            have HLE := Lib.hid HLE
            clear hG hk g2 g3 hll
            generalize lessP l κ = lp at *
            simp only [setAll, Nat.zero_add, Nat.reduceAdd, List.setIfInBounds_toArray, List.set_cons_zero, List.set_cons_succ, hvl]
            clear hvl
            generalize vs 0 = x0
            generalize vs 1 = x1
            generalize vs 2 = x2
            generalize vs 3 = x3
            generalize vs 4 = x4
            generalize vs 5 = x5
            generalize vs 6 = x6
            generalize vs 7 = x7
            generalize vs 8 = x8
            generalize vs 9 = x9
            go_wp2_with fail
            go_loopw [19, 20] (fun u i wr => ∃ (k : Nat) (iv : Int), k ≤ l.length ∧ i = .int .i64 iv ∧ iv = (k : Int) - 1 ∧ Hid (OwnSeq w12.heap.size 9 IsText wr u ((l.drop k).reverse)) ∧ Hid (Keeps w12 wr)) (fun _ i _ => (intOf i + 1).toNat)
            case atStart => exact ⟨l.length, _, Nat.le_refl _, rfl, by go_num, (by rw [List.drop_length]; exact OwnSeq.nil _ _ _ _), keeps_refl _⟩
            case round =>
              obtain ⟨k, iv, hk, rfl, hiv, hO, hK⟩ := hrel
              rcases k with _ | m
              · obtain rfl : iv = -1 := by omega
                have HBT : Hid (SeqIn (w12.heap.size ≤ ·) 9 IsText wr.heap u19 l.reverse) := by have := hO.out.seq (by simp; omega); rwa [List.drop_zero] at this
                have HLS := Lib.hid (SeqAt.keeps HLS.out hK.out)
                have HK := Lib.hid (HK.out.trans hK.out)
                clear hO hiv
                by_cases hp : 0 < lp.length
                · have p1 : decide ((0 : Int) < (lp.length : Int)) = true := decide_eq_true (by omega)
                  have p2 : decide (0 < lp.length) = true := decide_eq_true hp
                  have HLE : Hid (mayP lp = true) := HLE.out.trans p2
                  go_wp2_with fail
                  refine Calls.mono (pmay_e _ lp _ HLS.out _ HLE.out) ?_
                  rintro e w13 ⟨rfl, hk⟩
                  have HBT := Lib.hid (SeqAt.keeps (SeqIn.at_ HBT.out) hk)
                  have HK := Lib.hid (HK.out.trans hk)
                  clear hk
                  go_wp2_with fail
                  refine Calls.mono (pmay_e _ l.reverse _ HBT.out _ HREV.out) ?_
                  rintro e w14 ⟨rfl, hk⟩
                  have HK := Lib.hid (HK.out.trans hk)
                  clear hk
                  go_wp2_with fail
                  go_ret
                  exact ⟨rfl, HK.out⟩
                · have p1 : decide ((0 : Int) < (lp.length : Int)) = false := decide_eq_false (by omega)
                  have p2 : decide (0 < lp.length) = false := decide_eq_false hp
                  have HLE : Hid (mayP lp = false) := HLE.out.trans p2
                  go_wp2_with fail
                  refine Calls.mono (pmay_e _ lp _ HLS.out _ HLE.out) ?_
                  rintro e w13 ⟨rfl, hk⟩
                  have HBT := Lib.hid (SeqAt.keeps (SeqIn.at_ HBT.out) hk)
                  have HK := Lib.hid (HK.out.trans hk)
                  clear hk
                  go_wp2_with fail
                  refine Calls.mono (pmay_e _ l.reverse _ HBT.out _ HREV.out) ?_
                  rintro e w14 ⟨rfl, hk⟩
                  have HK := Lib.hid (HK.out.trans hk)
                  clear hk
                  go_wp2_with fail
                  go_ret
                  exact ⟨rfl, HK.out⟩
              · obtain rfl : iv = (m : Int) := by omega
                clear hiv
                have hm64 : (m : Int) < (l.length : Int) := by omega
                have hm0 : (0 : Int) ≤ (m : Int) := by omega
                have hmn : m < l.length := by omega
                obtain ⟨b1, o1, c1, u1, e1, d1, r1⟩ := seq_cell (SeqAt.keeps HA.out hK.out) hmn
                injection e1 with e3 e4 e5
                subst e5
                injection e3 with e3
                injection e3 with e6 e7 e8
                subst e6 e7
                unfold IsText at r1
                subst r1
                rw [← atP_get hmn] at d1
                have HRV : Hid ((l.drop m).reverse = (l.drop (m + 1)).reverse ++ [atP l m]) := by show _ = _; rw [List.drop_eq_getElem_cons hmn, List.reverse_cons, atP_get hmn]
                obtain ⟨us, hu1, hu2, hu3⟩ := hO.out
                have hul : us.length ≤ 4096 := by rw [hu2]; simp; omega
                have HU := Lib.hid hu1
                have HL2 := Lib.hid hu2
                have HL3 := Lib.hid hul
                have H3 := Lib.hid hu3
                have hsz5 := hK.out.size
                generalize atP l m = x at *
                clear hu1 hu2 hul hu3 e4 e8
                go_wp2_with (at_builtin; refine wp_app1 elText rfl _ _ rfl w12.heap.size u19 us rfl (HU.out.alloc _) _ (.string x) rfl ?q1 rfl ?q2 ?q3 ?_)
                case q1 => first | exact World.cell?_alloc_new _ _ _ _ | simp [go_sem]
                case q2 => have := HL3.out; omega
                case q3 => simp; omega
                intro v' w13 hown hchg
                have hpush : Hid (OwnSeq w12.heap.size 9 IsText w13 v' ((l.drop m).reverse)) := by show OwnSeq _ _ _ _ _ _; rw [HRV.out]; exact OwnSeq.push (R := IsText) HL2.out H3.out hown (fun _ _ _ x => x) rfl
                have hc6 : Chg (fun b => u19.ownBlock = some b) wr w13 := ((Chg.refl _ wr).alloc _).trans hchg
                have HK6 : Hid (Keeps w12 w13) := hK.out.then (Chg.kept (hc6.mono (T' := fun b => w12.heap.size ≤ b) fun b _ hb => (own_block HU.out b hb).1) hsz5) (Nat.le_refl _)
                clear hown hchg hc6
                go_wp2_with fail
                exact ⟨⟨m, _, by omega, rfl, by go_num, hpush, HK6⟩, by first | (simp [intOf]; done) | (simp [intOf]; omega)⟩
end Go.Proofs.Yteandjophamipaa
