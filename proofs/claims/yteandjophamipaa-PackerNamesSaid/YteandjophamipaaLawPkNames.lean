/- The walk of the law PackerNames: closed examples. -/
import Derived.Test.YteandjophamipaaPAwake
import Derived.Deep.Cut
namespace Go.Proofs.Yteandjophamipaa
open Go.RowKit
attribute [local go_sem ↓] Go.wp_at_zero Go.wp_at_succ

def cA : ByteArray := ⟨#[97]⟩
def cB : ByteArray := ⟨#[98]⟩
def cE : ByteArray := ⟨#[]⟩
/-- Two unlike chunks that do not fit. -/
theorem gath2 {x y : ByteArray} (h1 : y ≠ x) (s2 : 4096 < x.size + y.size) : gath [x, y] = [[x], [y]] := by
  have e1 : gst [x, y] 1 = ([], [x]) := by
    rw [gst_succ, hasT_no (by simp)]
    show stepG ([], []) x = _
    unfold stepG
    split
    · rfl
    · rfl
  have e2 : gst [x, y] 2 = ([[x]], [y]) := by
    rw [gst_succ, e1, hasT_no (by simp [atP]; exact h1)]
    show stepG ([], [x]) y = _
    unfold stepG
    rw [if_pos (by simp [total]; omega)]; rfl
  unfold gath
  show shutG (gst [x, y] 2) = _
  rw [e2]; rfl
theorem gathABA : gath [cA, cB, cA] = [[cA, cB]] := by decide +kernel
theorem badABA : badG [cA, cB, cA] = false := by decide +kernel
theorem badAE : badG [cA, cE] = true := by decide +kernel
theorem badG_one {c : ByteArray} (h : 16384 < c.size) : badG [c] = true := by unfold badG; simp [h]
set_option maxRecDepth 100000 in
set_option maxHeartbeats 8000000 in
theorem pknames_any (w : World) : Calls Try.prog 10 #[] w fun e w' => e = .returned (.bool true) ∧ Keeps w w' := by
  have HT2 := Lib.hid (fun wx => times_any 16385 97 wx (by omega))
  have HT3 := Lib.hid (fun wx => times_any 16384 97 wx (by omega))
  have HT4 := Lib.hid (fun wx => times_any 2000 97 wx (by omega))
  have HT5 := Lib.hid (fun wx => times_any 2096 98 wx (by omega))
  have HT6 := Lib.hid (fun wx => times_any 1 99 wx (by omega))
  have HAW := Lib.hid pawake_any
  have HPN : Hid (∀ wx, Calls Try.prog 30 #[.slice none 0 0] wx fun e w' => e = .returned (.int .i64 0) ∧ Keeps wx w') := fun wx => pbytes_any _ [] wx (RecAt.nil _ _ _) (by decide)
  have z2 := manyB_size 16385 97
  have z3 := manyB_size 16384 97
  have z4 := manyB_size 2000 97
  have z5 := manyB_size 2096 98
  have z6 := manyB_size 1 99
  have HB2 : Hid (badG [manyB 16385 97] = true) := badG_one (by omega)
  have hn3 : cB ≠ manyB 16384 97 := fun e => by have := congrArg ByteArray.size e; rw [z3] at this; exact absurd this (by decide)
  have HG3 : Hid (gath [manyB 16384 97, cB] = [[manyB 16384 97], [cB]]) := gath2 hn3 (by rw [z3]; omega)
  have HB3 : Hid (badG [manyB 16384 97, cB] = false) := badG_of fun c hc => by
    simp at hc; rcases hc with rfl | rfl
    · omega
    · decide
  have HG4 : Hid (gath [manyB 2000 97, manyB 2096 98, manyB 1 99] = [[manyB 2000 97, manyB 2096 98], [manyB 1 99]]) :=
    gath3 (fun e => by have := congrArg ByteArray.size e; omega) (fun e => by have := congrArg ByteArray.size e; omega) (fun e => by have := congrArg ByteArray.size e; omega) (by omega) (by omega) (by omega)
  have HB4 : Hid (badG [manyB 2000 97, manyB 2096 98, manyB 1 99] = false) := badG_of fun c hc => by
    simp at hc; rcases hc with rfl | rfl | rfl <;> omega
  have HS2 : Hid (total [manyB 16385 97] ≤ 1000000) := by show _ ≤ _; simp [total]; omega
  have HS3 : Hid (total [manyB 16384 97, cB] ≤ 1000000) := by show _ ≤ _; have : cB.size = 1 := rfl; simp [total]; omega
  have HS4 : Hid (total [manyB 2000 97, manyB 2096 98, manyB 1 99] ≤ 1000000) := by show _ ≤ _; simp [total]; omega
  clear z2 z3 z4 z5 z6 hn3
  generalize manyB 16385 97 = t2 at *
  generalize manyB 16384 97 = t3 at *
  generalize manyB 2000 97 = t4 at *
  generalize manyB 2096 98 = t5 at *
  generalize manyB 1 99 = t6 at *
  have HK := Lib.hid (keeps_refl w)
  go_enter Try.func10, Try.ntmps10
  go_wp2_with fail
  refine Calls.mono (give_no (gather_any _ [cA, cE] _ (textsAt_lit w [cA, cE] 2 2 rfl (by omega)) (by decide) (by decide)) badAE) ?_
  rintro e w1 ⟨rfl, hk⟩
  have HK : Hid (Keeps w w1) := (kal w _).trans hk
  clear hk
  go_wp2_with fail
  refine Calls.mono (HT2.out _) ?_
  rintro e w2 ⟨rfl, hk⟩
  have HK := Lib.hid (HK.out.trans hk)
  clear hk
  go_wp2_with fail
  refine Calls.mono (give_no (gather_any _ [t2] _ (textsAt_lit w2 [t2] 1 1 rfl (by omega)) (by simp) HS2.out) HB2.out) ?_
  rintro e w3 ⟨rfl, hk⟩
  have HK : Hid (Keeps w w3) := HK.out.trans ((kal w2 _).trans hk)
  clear hk
  go_wp2_with fail
  refine Calls.mono (HT3.out _) ?_
  rintro e w4 ⟨rfl, hk⟩
  have HK := Lib.hid (HK.out.trans hk)
  clear hk
  go_wp2_with fail
  refine Calls.mono (give_yes (gather_any _ [t3, cB] _ (textsAt_lit w4 [t3, cB] 2 2 rfl (by omega)) (by simp) HS3.out) HB3.out HG3.out) ?_
  rintro e w5 ⟨v5, rfl, hr, hk⟩
  have HK : Hid (Keeps w w5) := HK.out.trans ((kal w4 _).trans hk)
  obtain ⟨p5, q5, rfl⟩ := rec_shape hr.at_
  clear hk hr
  go_wp2_with fail
  refine Calls.mono (HT4.out _) ?_
  rintro e w6 ⟨rfl, hk⟩
  have HK := Lib.hid (HK.out.trans hk)
  clear hk
  go_wp2_with fail
  refine Calls.mono (HT5.out _) ?_
  rintro e w7 ⟨rfl, hk⟩
  have HK := Lib.hid (HK.out.trans hk)
  clear hk
  go_wp2_with fail
  refine Calls.mono (HT6.out _) ?_
  rintro e w8 ⟨rfl, hk⟩
  have HK := Lib.hid (HK.out.trans hk)
  clear hk
  go_wp2_with fail
  refine Calls.mono (give_yes (gather_any _ [t4, t5, t6] _ (textsAt_lit w8 [t4, t5, t6] 3 3 rfl (by omega)) (by simp) HS4.out) HB4.out HG4.out) ?_
  rintro e w9 ⟨v7, rfl, hr, hk⟩
  have HK : Hid (Keeps w w9) := HK.out.trans ((kal w8 _).trans hk)
  obtain ⟨b7, o7, q7, us, rfl, hu0, hc0, c0, p0, rfl, ht0, _⟩ := rec_cell hr.at_ (i := 0) (by simp)
  simp only [List.getElem_cons_zero] at ht0
  obtain ⟨a7, r7, rfl⟩ := seq_shape (SeqIn.at_ ht0)
  have k7 := hc0 2 (by simp)
  simp only [List.getElem_cons_zero, List.getElem_cons_succ, Nat.zero_mul, Nat.add_zero, List.map_cons, List.map_nil, List.length_cons, List.length_nil, Nat.zero_add, Nat.reduceAdd] at k7
  have K7 := Lib.hid k7
  clear hk hr hu0 hc0 ht0 k7
  go_wp2_with fail
  refine Calls.mono (give_yes (gather_any _ [] _ (SeqAt.nil _ _) (by decide) (by decide)) (by decide) (show gath [] = [] from rfl)) ?_
  rintro e w10 ⟨v9, rfl, hr, hk⟩
  have K7 := Lib.hid (keeps_cell hk K7.out)
  have HK := Lib.hid (HK.out.trans hk)
  obtain ⟨p9, q9, rfl⟩ := rec_shape hr.at_
  clear hk hr
  go_wp2_with fail
  refine Calls.mono (give_yes (gather_any _ [cA, cB, cA] _ (textsAt_lit w10 [cA, cB, cA] 3 3 rfl (by omega)) (by decide) (by decide)) badABA gathABA) ?_
  rintro e w11 ⟨v11, rfl, hr, hk⟩
  have K7 := Lib.hid (keeps_cell ((kal w10 _).trans hk) K7.out)
  have HK : Hid (Keeps w w11) := HK.out.trans ((kal w10 _).trans hk)
  obtain ⟨b11, o11, q11, us, rfl, hu0, hc0, c0, p0, rfl, ht0, _⟩ := rec_cell hr.at_ (i := 0) (by simp)
  simp only [List.getElem_cons_zero] at ht0
  obtain ⟨a11, r11, rfl⟩ := seq_shape (SeqIn.at_ ht0)
  have k11 := hc0 2 (by simp)
  simp only [List.getElem_cons_zero, List.getElem_cons_succ, Nat.zero_mul, Nat.add_zero, List.map_cons, List.map_nil, List.length_cons, List.length_nil, Nat.zero_add, Nat.reduceAdd] at k11
  have K11 := Lib.hid k11
  clear hk hr hu0 hc0 ht0 k11
  go_upto_region 7 with (fail)
  simp only [List.append]
  have k7 := K7.out
  have k11 := K11.out
  go_wp2_with fail
  refine Calls.mono (HPN.out _) ?_
  rintro e w12 ⟨rfl, hk⟩
  have HK := Lib.hid (HK.out.trans hk)
  clear hk
  go_wp2_with fail
  refine Calls.mono (HAW.out _) ?_
  rintro e w13 ⟨rfl, hk⟩
  have HK := Lib.hid (HK.out.trans hk)
  clear hk
  go_wp2_with fail
  go_ret
  exact ⟨rfl, HK.out⟩
end Go.Proofs.Yteandjophamipaa
