/- The walk of the law FrameLong. -/
import Derived.Test.YtcapalofocmmoaaFrWorks
import Derived.Test.YtcapalofocmmoaaFrEq
namespace Go.Proofs.Ytcapalofocmmoaa
open Go.RowKit
theorem makeF_cases (ep gen k n : Int) (b : ByteArray) : (∃ E, E ≠ 0 ∧ makeF ep gen k n b = (⟨#[]⟩, E)) ∨ (mayF ep gen k n = true ∧ b.size + 50 ≤ 65536 ∧ makeF ep gen k n b = (strB (sealF (textF ep.toNat gen.toNat k.toNat n.toNat b.data.toList)), 0)) := by
  unfold makeF
  split
  · rename_i h1
    split
    · rename_i h2
      exact .inr ⟨h1, h2, rfl⟩
    · exact .inl ⟨_, by decide, rfl⟩
  · exact .inl ⟨_, by decide, rfl⟩
theorem make_size {ep gen k n : Int} {b S : ByteArray} (h : makeF ep gen k n b = (S, 0)) : S.size = 50 + b.size := by
  rcases makeF_cases ep gen k n b with ⟨E, h1, h2⟩ | ⟨h1, h2, h3⟩
  · rw [h2] at h; cases h; exact absurd rfl h1
  · rw [h3] at h
    cases h
    rw [strB_size, sealF_length, textF_length, data_size]; omega
theorem make_same {a1 a2 a3 a4 b1 b2 b3 b4 : Int} {a b S T : ByteArray} (h : makeF a1 a2 a3 a4 a = (S, 0)) (h' : makeF b1 b2 b3 b4 b = (T, 0)) : (S.toList == T.toList) = frEq a1 a2 a3 a4 b1 b2 b3 b4 a b := by
  rw [txt_eq]
  by_cases e : S = T
  · rw [decide_eq_true e]
    subst e
    symm
    rw [frEq_iff]
    rcases makeF_cases a1 a2 a3 a4 a with ⟨E, h1, h2⟩ | ⟨h1, h2, h3⟩
    · rw [h2] at h; cases h; exact absurd rfl h1
    rcases makeF_cases b1 b2 b3 b4 b with ⟨E, k1, k2⟩ | ⟨k1, k2, k3⟩
    · rw [k2] at h'; cases h'; exact absurd rfl k1
    rw [h3] at h
    rw [k3] at h'
    have hS := congrArg Prod.fst h
    have hT := congrArg Prod.fst h'
    have e1 := strB_inj (hS.trans hT.symm)
    have e2 := congrArg textOf e1
    rw [textOf_seal, textOf_seal] at e2
    have m1 := mayF_true.1 h1
    have m2 := mayF_true.1 k1
    have e3 := congrArg stepsF e2
    rw [steps_text _ _ _ _ _ (by omega) (by omega) (by omega) (by omega) (by rw [data_size]; omega), steps_text _ _ _ _ _ (by omega) (by omega) (by omega) (by omega) (by rw [data_size]; omega)] at e3
    injection e3 with x1 x2 x3 x4 x5 x6
    refine ⟨by omega, by omega, by omega, by omega, ?_⟩
    rw [← strB_data a, ← strB_data b, x5]
  · rw [decide_eq_false e]
    symm
    cases hq : frEq a1 a2 a3 a4 b1 b2 b3 b4 a b with
    | false => rfl
    | true =>
      rw [frEq_iff] at hq
      obtain ⟨rfl, rfl, rfl, rfl, rfl⟩ := hq
      rw [h] at h'
      cases h'
      exact absurd rfl e
set_option maxRecDepth 100000 in
set_option maxHeartbeats 8000000 in
theorem flong_any (a1 a2 a3 a4 : Int) (a : ByteArray) (b1 b2 b3 b4 : Int) (b : ByteArray) (w : World) : Calls Try.prog 13 #[frV a1 a2 a3 a4 a, frV b1 b2 b3 b4 b] w fun e w' => e = .returned (.bool true) ∧ Keeps w w' := by
  have HWK := Lib.hid frworks_any
  unfold frV
  obtain ⟨w1, hw1⟩ : ∃ w1, w1 = (w.alloc (.cells (frA a1 a2 a3 a4 a) 47)).alloc (.cells (frA b1 b2 b3 b4 b) 47) := ⟨_, rfl⟩
  have HK1 : Hid (Keeps w w1) := by rw [hw1]; exact (kal _ _).trans (kal _ _)
  have z1 : (w.alloc (.cells (frA a1 a2 a3 a4 a) 47)).heap.size = w.heap.size + 1 := by simp
  have HA1 : Hid (FrRow w1 w.heap.size a1 a2 a3 a4 a) := by rw [hw1]; exact FrRow.keeps (heap_alloc_new _ _) (kal _ _)
  have HB1 : Hid (FrRow w1 (w.heap.size + 1) b1 b2 b3 b4 b) := by show _ = _; rw [hw1, ← z1]; exact heap_alloc_new _ _
  clear z1
  unfold frA at hw1
  by_cases ga : 5000 < a.size
  · skip
    have ia : (5000 : Int) < (a.size : Int) := by omega
    have da : decide ((5000 : Int) < (a.size : Int)) = true := decide_eq_true ia
    clear ga
    go_enter Try.func13, Try.ntmps13
    go_wp2_with fail
    rw [← hw1]
    clear hw1
    generalize w.heap.size = N at *
    refine Calls.mono (HWK.out _) ?_
    rintro e w2 ⟨rfl, hk⟩
    have HK2 := Lib.hid (HK1.out.trans hk)
    have HA2 : Hid (FrRow w2 N a1 a2 a3 a4 a) := HA1.out.keeps hk
    have HB2 : Hid (FrRow w2 (N + 1) b1 b2 b3 b4 b) := HB1.out.keeps hk
    clear hk HK1 HA1 HB1
    have c0 : w2.cell? ⟨N, 0, none⟩ = some (.int .i64 a1) := cell_of_row w2 N 0 _ _ _ HA2.out
    have c1 : w2.cell? ⟨N, 1, none⟩ = some (.int .i64 a2) := cell_of_row w2 N 1 _ _ _ HA2.out
    have c2 : w2.cell? ⟨N, 2, none⟩ = some (.int .i64 a3) := cell_of_row w2 N 2 _ _ _ HA2.out
    have c3 : w2.cell? ⟨N, 3, none⟩ = some (.int .i64 a4) := cell_of_row w2 N 3 _ _ _ HA2.out
    have c4 : w2.cell? ⟨N, 4, none⟩ = some (.string a) := cell_of_row w2 N 4 _ _ _ HA2.out
    have x0 : w2.cell? ⟨N + 1, 0, none⟩ = some (.int .i64 b1) := cell_of_row w2 (N + 1) 0 _ _ _ HB2.out
    have x1 : w2.cell? ⟨N + 1, 1, none⟩ = some (.int .i64 b2) := cell_of_row w2 (N + 1) 1 _ _ _ HB2.out
    have x2 : w2.cell? ⟨N + 1, 2, none⟩ = some (.int .i64 b3) := cell_of_row w2 (N + 1) 2 _ _ _ HB2.out
    have x3 : w2.cell? ⟨N + 1, 3, none⟩ = some (.int .i64 b4) := cell_of_row w2 (N + 1) 3 _ _ _ HB2.out
    have x4 : w2.cell? ⟨N + 1, 4, none⟩ = some (.string b) := cell_of_row w2 (N + 1) 4 _ _ _ HB2.out
    go_wp2_with fail
    refine Calls.mono (HWK.out _) ?_
    rintro e w3 ⟨rfl, hk⟩
    go_wp2_with fail
    go_ret
    exact ⟨rfl, HK2.out.trans hk⟩
  by_cases gb : 5000 < b.size
  · skip
    have ia : ¬ (5000 : Int) < (a.size : Int) := by omega
    have da : decide ((5000 : Int) < (a.size : Int)) = false := decide_eq_false ia
    clear ga
    have ib : (5000 : Int) < (b.size : Int) := by omega
    have db : decide ((5000 : Int) < (b.size : Int)) = true := decide_eq_true ib
    clear gb
    go_enter Try.func13, Try.ntmps13
    go_wp2_with fail
    rw [← hw1]
    clear hw1
    generalize w.heap.size = N at *
    refine Calls.mono (HWK.out _) ?_
    rintro e w2 ⟨rfl, hk⟩
    have HK2 := Lib.hid (HK1.out.trans hk)
    have HA2 : Hid (FrRow w2 N a1 a2 a3 a4 a) := HA1.out.keeps hk
    have HB2 : Hid (FrRow w2 (N + 1) b1 b2 b3 b4 b) := HB1.out.keeps hk
    clear hk HK1 HA1 HB1
    have c0 : w2.cell? ⟨N, 0, none⟩ = some (.int .i64 a1) := cell_of_row w2 N 0 _ _ _ HA2.out
    have c1 : w2.cell? ⟨N, 1, none⟩ = some (.int .i64 a2) := cell_of_row w2 N 1 _ _ _ HA2.out
    have c2 : w2.cell? ⟨N, 2, none⟩ = some (.int .i64 a3) := cell_of_row w2 N 2 _ _ _ HA2.out
    have c3 : w2.cell? ⟨N, 3, none⟩ = some (.int .i64 a4) := cell_of_row w2 N 3 _ _ _ HA2.out
    have c4 : w2.cell? ⟨N, 4, none⟩ = some (.string a) := cell_of_row w2 N 4 _ _ _ HA2.out
    have x0 : w2.cell? ⟨N + 1, 0, none⟩ = some (.int .i64 b1) := cell_of_row w2 (N + 1) 0 _ _ _ HB2.out
    have x1 : w2.cell? ⟨N + 1, 1, none⟩ = some (.int .i64 b2) := cell_of_row w2 (N + 1) 1 _ _ _ HB2.out
    have x2 : w2.cell? ⟨N + 1, 2, none⟩ = some (.int .i64 b3) := cell_of_row w2 (N + 1) 2 _ _ _ HB2.out
    have x3 : w2.cell? ⟨N + 1, 3, none⟩ = some (.int .i64 b4) := cell_of_row w2 (N + 1) 3 _ _ _ HB2.out
    have x4 : w2.cell? ⟨N + 1, 4, none⟩ = some (.string b) := cell_of_row w2 (N + 1) 4 _ _ _ HB2.out
    go_wp2_with fail
    refine Calls.mono (HWK.out _) ?_
    rintro e w3 ⟨rfl, hk⟩
    go_wp2_with fail
    go_ret
    exact ⟨rfl, HK2.out.trans hk⟩
  have HM1 := Lib.hid (fun wx => frmake_any a1 a2 a3 a4 a wx (by omega))
  have HM2 := Lib.hid (fun wx => frmake_any b1 b2 b3 b4 b wx (by omega))
  unfold frV at HM1 HM2
  have HS1 := Lib.hid (fun S => make_size (ep := a1) (gen := a2) (k := a3) (n := a4) (b := a) (S := S))
  have HSM := Lib.hid (fun S T => make_same (a1 := a1) (a2 := a2) (a3 := a3) (a4 := a4) (b1 := b1) (b2 := b2) (b3 := b3) (b4 := b4) (a := a) (b := b) (S := S) (T := T))
  have HC1 := Lib.hid (makeF_cases a1 a2 a3 a4 a)
  have HC2 := Lib.hid (makeF_cases b1 b2 b3 b4 b)
  have hsa : a.size ≤ 5000 := by omega
  have ia : ¬ (5000 : Int) < (a.size : Int) := by omega
  have da : decide ((5000 : Int) < (a.size : Int)) = false := decide_eq_false ia
  clear ga
  have ib : ¬ (5000 : Int) < (b.size : Int) := by omega
  have db : decide ((5000 : Int) < (b.size : Int)) = false := decide_eq_false ib
  clear gb
  have HE1 : Hid ((makeF a1 a2 a3 a4 a).2 = 0 ∨ ((makeF a1 a2 a3 a4 a).2 ≠ 0 ∧ (makeF a1 a2 a3 a4 a).1 = ⟨#[]⟩)) := by
    rcases HC1.out with ⟨E, h1, h2⟩ | ⟨h1, h2, h3⟩
    · rw [h2]; exact .inr ⟨h1, rfl⟩
    · rw [h3]; exact .inl rfl
  clear HC1
  have HE2 : Hid ((makeF b1 b2 b3 b4 b).2 = 0 ∨ ((makeF b1 b2 b3 b4 b).2 ≠ 0 ∧ (makeF b1 b2 b3 b4 b).1 = ⟨#[]⟩)) := by
    rcases HC2.out with ⟨E, h1, h2⟩ | ⟨h1, h2, h3⟩
    · rw [h2]; exact .inr ⟨h1, rfl⟩
    · rw [h3]; exact .inl rfl
  clear HC2
  obtain ⟨S, hS⟩ : ∃ S, S = (makeF a1 a2 a3 a4 a).1 := ⟨_, rfl⟩
  obtain ⟨E, hE⟩ : ∃ E, E = (makeF a1 a2 a3 a4 a).2 := ⟨_, rfl⟩
  obtain ⟨T, hT⟩ : ∃ T, T = (makeF b1 b2 b3 b4 b).1 := ⟨_, rfl⟩
  obtain ⟨F, hF⟩ : ∃ F, F = (makeF b1 b2 b3 b4 b).2 := ⟨_, rfl⟩
  have HS : Hid (E = 0 → (S.size : Int) = 50 + (a.size : Int)) := fun e => by have := HS1.out S (by rw [hS, ← e, hE]); omega
  have HQ : Hid (E = 0 → F = 0 → (S.toList == T.toList) = frEq a1 a2 a3 a4 b1 b2 b3 b4 a b) := fun e f => HSM.out S T (by rw [hS, ← e, hE]) (by rw [hT, ← f, hF])
  rw [← hS, ← hE] at HM1 HE1
  rw [← hT, ← hF] at HM2 HE2
  clear hS hE hT hF HS1 HSM
  have HR := Lib.hid (run_frEq a1 a2 a3 a4 b1 b2 b3 b4 a b)
  generalize frEq a1 a2 a3 a4 b1 b2 b3 b4 a b = q at *
  go_enter Try.func13, Try.ntmps13
  go_wp2_with fail
  rw [← hw1]
  clear hw1
  generalize w.heap.size = N at *
  refine Calls.mono (HWK.out _) ?_
  rintro e w2 ⟨rfl, hk⟩
  have HK2 := Lib.hid (HK1.out.trans hk)
  have HA2 : Hid (FrRow w2 N a1 a2 a3 a4 a) := HA1.out.keeps hk
  have HB2 : Hid (FrRow w2 (N + 1) b1 b2 b3 b4 b) := HB1.out.keeps hk
  clear hk HK1 HA1 HB1
  have c0 : w2.cell? ⟨N, 0, none⟩ = some (.int .i64 a1) := cell_of_row w2 N 0 _ _ _ HA2.out
  have c1 : w2.cell? ⟨N, 1, none⟩ = some (.int .i64 a2) := cell_of_row w2 N 1 _ _ _ HA2.out
  have c2 : w2.cell? ⟨N, 2, none⟩ = some (.int .i64 a3) := cell_of_row w2 N 2 _ _ _ HA2.out
  have c3 : w2.cell? ⟨N, 3, none⟩ = some (.int .i64 a4) := cell_of_row w2 N 3 _ _ _ HA2.out
  have c4 : w2.cell? ⟨N, 4, none⟩ = some (.string a) := cell_of_row w2 N 4 _ _ _ HA2.out
  have x0 : w2.cell? ⟨N + 1, 0, none⟩ = some (.int .i64 b1) := cell_of_row w2 (N + 1) 0 _ _ _ HB2.out
  have x1 : w2.cell? ⟨N + 1, 1, none⟩ = some (.int .i64 b2) := cell_of_row w2 (N + 1) 1 _ _ _ HB2.out
  have x2 : w2.cell? ⟨N + 1, 2, none⟩ = some (.int .i64 b3) := cell_of_row w2 (N + 1) 2 _ _ _ HB2.out
  have x3 : w2.cell? ⟨N + 1, 3, none⟩ = some (.int .i64 b4) := cell_of_row w2 (N + 1) 3 _ _ _ HB2.out
  have x4 : w2.cell? ⟨N + 1, 4, none⟩ = some (.string b) := cell_of_row w2 (N + 1) 4 _ _ _ HB2.out
  go_wp2_with fail
  refine Calls.mono (HM1.out _) ?_
  rintro e w3 ⟨rfl, hk⟩
  have HK3 := Lib.hid (HK2.out.trans hk)
  have HA3 : Hid (FrRow w3 N a1 a2 a3 a4 a) := HA2.out.keeps hk
  have HB3 : Hid (FrRow w3 (N + 1) b1 b2 b3 b4 b) := HB2.out.keeps hk
  clear hk HK2 HA2 HB2 c0 c1 c2 c3 c4 x0 x1 x2 x3 x4
  have x0 : w3.cell? ⟨N + 1, 0, none⟩ = some (.int .i64 b1) := cell_of_row w3 (N + 1) 0 _ _ _ HB3.out
  have x1 : w3.cell? ⟨N + 1, 1, none⟩ = some (.int .i64 b2) := cell_of_row w3 (N + 1) 1 _ _ _ HB3.out
  have x2 : w3.cell? ⟨N + 1, 2, none⟩ = some (.int .i64 b3) := cell_of_row w3 (N + 1) 2 _ _ _ HB3.out
  have x3 : w3.cell? ⟨N + 1, 3, none⟩ = some (.int .i64 b4) := cell_of_row w3 (N + 1) 3 _ _ _ HB3.out
  have x4 : w3.cell? ⟨N + 1, 4, none⟩ = some (.string b) := cell_of_row w3 (N + 1) 4 _ _ _ HB3.out
  go_wp2_with fail
  refine Calls.mono (HM2.out _) ?_
  rintro e w4 ⟨rfl, hk⟩
  have HK4 := Lib.hid (HK3.out.trans hk)
  have HA4 : Hid (FrRow w4 N a1 a2 a3 a4 a) := HA3.out.keeps hk
  have HB4 : Hid (FrRow w4 (N + 1) b1 b2 b3 b4 b) := HB3.out.keeps hk
  clear hk HK3 HA3 HB3 HM1 HM2 HWK x0 x1 x2 x3 x4
  have c0 : w4.cell? ⟨N, 0, none⟩ = some (.int .i64 a1) := cell_of_row w4 N 0 _ _ _ HA4.out
  have c1 : w4.cell? ⟨N, 1, none⟩ = some (.int .i64 a2) := cell_of_row w4 N 1 _ _ _ HA4.out
  have c2 : w4.cell? ⟨N, 2, none⟩ = some (.int .i64 a3) := cell_of_row w4 N 2 _ _ _ HA4.out
  have c3 : w4.cell? ⟨N, 3, none⟩ = some (.int .i64 a4) := cell_of_row w4 N 3 _ _ _ HA4.out
  have c4 : w4.cell? ⟨N, 4, none⟩ = some (.string a) := cell_of_row w4 N 4 _ _ _ HA4.out
  have x0 : w4.cell? ⟨N + 1, 0, none⟩ = some (.int .i64 b1) := cell_of_row w4 (N + 1) 0 _ _ _ HB4.out
  have x1 : w4.cell? ⟨N + 1, 1, none⟩ = some (.int .i64 b2) := cell_of_row w4 (N + 1) 1 _ _ _ HB4.out
  have x2 : w4.cell? ⟨N + 1, 2, none⟩ = some (.int .i64 b3) := cell_of_row w4 (N + 1) 2 _ _ _ HB4.out
  have x3 : w4.cell? ⟨N + 1, 3, none⟩ = some (.int .i64 b4) := cell_of_row w4 (N + 1) 3 _ _ _ HB4.out
  have x4 : w4.cell? ⟨N + 1, 4, none⟩ = some (.string b) := cell_of_row w4 (N + 1) 4 _ _ _ HB4.out
  rcases HE1.out with rfl | ⟨hE, rfl⟩
  · rcases HE2.out with rfl | ⟨hF, rfl⟩
    · have hs := HS.out rfl
      have hq := HQ.out rfl rfl
      have hr := HR.out
      have hw : IntKind.i64.wrap (50 + (a.size : Int)) = 50 + (a.size : Int) := IntWalk.i64_in _ (by omega)
      clear HS HQ HR HE1 HE2
      cases q with
      | true =>
        go_wp2_with fail
        go_ret
        exact ⟨rfl, HK4.out⟩
      | false =>
        go_wp2_with fail
        go_ret
        exact ⟨rfl, HK4.out⟩
    · have g5 : (F != 0) = true := by rw [bne_iff_ne]; exact hF
      have g6 : decide (F = 0) = false := decide_eq_false hF
      have g7 : (F == 0) = false := beq_eq_false_iff_ne.2 hF
      clear HS HQ HR HE1 HE2
      go_wp2_with fail
      go_ret
      exact ⟨rfl, HK4.out⟩
  · have g5 : (E != 0) = true := by rw [bne_iff_ne]; exact hE
    have g6 : decide (E = 0) = false := decide_eq_false hE
    have g7 : (E == 0) = false := beq_eq_false_iff_ne.2 hE
    rcases HE2.out with rfl | ⟨hF, rfl⟩
    · clear HS HQ HR HE1 HE2
      go_wp2_with fail
      go_ret
      exact ⟨rfl, HK4.out⟩
    · have k5 : (F != 0) = true := by rw [bne_iff_ne]; exact hF
      have k6 : decide (F = 0) = false := decide_eq_false hF
      have k7 : (F == 0) = false := beq_eq_false_iff_ne.2 hF
      clear HS HQ HR HE1 HE2
      go_wp2_with fail
      go_ret
      exact ⟨rfl, HK4.out⟩
end Go.Proofs.Ytcapalofocmmoaa
