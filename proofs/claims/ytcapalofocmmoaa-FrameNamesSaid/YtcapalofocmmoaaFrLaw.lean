/- Frames, as plain functions: what is read of a frame's text, and what Make and Read say to one another. No program in sight. -/
import Derived.Test.YtcapalofocmmoaaFrRead
namespace Go.Proofs.Ytcapalofocmmoaa
theorem tkB_app (m : Nat) (a r : List UInt8) (h : a.length = m) : tkB m (a ++ r) = a := by
  unfold tkB
  subst h
  rw [if_pos (by simp), List.take_left]
theorem drB_app (m : Nat) (a r : List UInt8) (h : a.length = m) : drB m (a ++ r) = r := by
  unfold drB
  subst h
  rw [if_pos (by simp), List.drop_left]
theorem badB_app (m : Nat) (a r : List UInt8) (b : Bool) (h : a.length = m) : badB m (a ++ r) b = b := by
  unfold badB
  subst h
  rw [decide_eq_true (by simp)]; simp
theorem tk_dr {m : Nat} {r : List UInt8} (h : m ≤ r.length) : tkB m r ++ drB m r = r := by
  unfold tkB drB
  rw [if_pos h, if_pos h, List.take_append_drop]
theorem tk_len {m : Nat} {r : List UInt8} (h : m ≤ r.length) : (tkB m r).length = m := by
  unfold tkB
  rw [if_pos h, List.length_take]; omega
theorem badB_no {m : Nat} {r : List UInt8} {b : Bool} (h : badB m r b = false) : b = false ∧ m ≤ r.length := by
  unfold badB at h
  rw [Bool.or_eq_false_iff, Bool.not_eq_false', decide_eq_true_eq] at h
  exact h
theorem beN_four {n : Nat} (h : n < 4294967296) : beN (SH.four n) = n := by
  unfold beN SH.four
  simp only [List.foldl_cons, List.foldl_nil, UInt8.toNat_ofNat']
  omega
theorem four_beN {l : List UInt8} (h : l.length = 4) : SH.four (beN l) = l := by
  match l, h with
  | [a, b, c, d], _ =>
    have ha := UInt8.toNat_lt a
    have hb := UInt8.toNat_lt b
    have hc := UInt8.toNat_lt c
    have hd := UInt8.toNat_lt d
    unfold beN SH.four
    simp only [List.foldl_cons, List.foldl_nil]
    have e1 : UInt8.ofNat ((((0 * 256 + a.toNat) * 256 + b.toNat) * 256 + c.toNat) * 256 + d.toNat) = d := by
      apply UInt8.toNat_inj.1; rw [UInt8.toNat_ofNat']; omega
    have e2 : UInt8.ofNat (((((0 * 256 + a.toNat) * 256 + b.toNat) * 256 + c.toNat) * 256 + d.toNat) / 256) = c := by
      apply UInt8.toNat_inj.1; rw [UInt8.toNat_ofNat']; omega
    have e3 : UInt8.ofNat (((((0 * 256 + a.toNat) * 256 + b.toNat) * 256 + c.toNat) * 256 + d.toNat) / 65536) = b := by
      apply UInt8.toNat_inj.1; rw [UInt8.toNat_ofNat']; omega
    have e4 : UInt8.ofNat (((((0 * 256 + a.toNat) * 256 + b.toNat) * 256 + c.toNat) * 256 + d.toNat) / 16777216) = a := by
      apply UInt8.toNat_inj.1; rw [UInt8.toNat_ofNat']; omega
    rw [e1, e2, e3, e4]
theorem beN_one {n : Nat} (h : n < 256) : beN [UInt8.ofNat n] = n := by
  unfold beN
  simp only [List.foldl_cons, List.foldl_nil, UInt8.toNat_ofNat']
  omega
theorem one_beN {l : List UInt8} (h : l.length = 1) : [UInt8.ofNat (beN l)] = l := by
  match l, h with
  | [a], _ =>
    unfold beN
    simp only [List.foldl_cons, List.foldl_nil, Nat.zero_mul, Nat.zero_add]
    congr 1
    apply UInt8.toNat_inj.1; rw [UInt8.toNat_ofNat']; have := UInt8.toNat_lt a; omega
theorem text_flat (ep gen k n : Nat) (body : List UInt8) : textF ep gen k n body = [109, 97, 110, 49] ++ (SH.four ep ++ (SH.four gen ++ ([UInt8.ofNat k] ++ ([UInt8.ofNat n] ++ (SH.four body.length ++ body))))) := by
  unfold textF headF; simp only [List.append_assoc]
theorem steps_text (ep gen k n : Nat) (body : List UInt8) (h1 : ep < 4294967296) (h2 : gen < 4294967296) (h3 : k < 256) (h4 : n < 256) (h5 : body.length < 4294967296) :
    stepsF (textF ep gen k n body) = { ep := ep, gen := gen, k := k, n := n, body := body, ok := mayF ep gen k n } := by
  rw [text_flat]
  unfold stepsF
  generalize hr5 : SH.four body.length ++ body = r5
  generalize hr4 : [UInt8.ofNat n] ++ r5 = r4
  generalize hr3 : [UInt8.ofNat k] ++ r4 = r3
  generalize hr2 : SH.four gen ++ r3 = r2
  generalize hr1 : SH.four ep ++ r2 = r1
  have d1 : drB 4 ([109, 97, 110, 49] ++ r1) = r1 := drB_app 4 _ _ rfl
  have d2 : drB 4 r1 = r2 := by rw [← hr1]; exact drB_app 4 _ _ rfl
  have d3 : drB 4 r2 = r3 := by rw [← hr2]; exact drB_app 4 _ _ rfl
  have d4 : drB 1 r3 = r4 := by rw [← hr3]; exact drB_app 1 _ _ rfl
  have d5 : drB 1 r4 = r5 := by rw [← hr4]; exact drB_app 1 _ _ rfl
  have d6 : drB 4 r5 = body := by rw [← hr5]; exact drB_app 4 _ _ rfl
  have t1 : tkB 4 r1 = SH.four ep := by rw [← hr1]; exact tkB_app 4 _ _ rfl
  have t2 : tkB 4 r2 = SH.four gen := by rw [← hr2]; exact tkB_app 4 _ _ rfl
  have t3 : tkB 1 r3 = [UInt8.ofNat k] := by rw [← hr3]; exact tkB_app 1 _ _ rfl
  have t4 : tkB 1 r4 = [UInt8.ofNat n] := by rw [← hr4]; exact tkB_app 1 _ _ rfl
  have t5 : tkB 4 r5 = SH.four body.length := by rw [← hr5]; exact tkB_app 4 _ _ rfl
  have t0 : tkB 4 ([109, 97, 110, 49] ++ r1) = [109, 97, 110, 49] := tkB_app 4 _ _ rfl
  have x1 : ∀ b, badB 4 r1 b = b := fun b => by rw [← hr1]; exact badB_app 4 _ _ _ rfl
  have x2 : ∀ b, badB 4 r2 b = b := fun b => by rw [← hr2]; exact badB_app 4 _ _ _ rfl
  have x3 : ∀ b, badB 1 r3 b = b := fun b => by rw [← hr3]; exact badB_app 1 _ _ _ rfl
  have x4 : ∀ b, badB 1 r4 b = b := fun b => by rw [← hr4]; exact badB_app 1 _ _ _ rfl
  have x5 : ∀ b, badB 4 r5 b = b := fun b => by rw [← hr5]; exact badB_app 4 _ _ _ rfl
  have l0 : tkB body.length body = body := by unfold tkB; rw [if_pos (Nat.le_refl _), List.take_length]
  have l1 : drB body.length body = [] := by unfold drB; rw [if_pos (Nat.le_refl _), List.drop_length]
  have l2 : ∀ b, badB body.length body b = b := fun b => by unfold badB; rw [decide_eq_true (Nat.le_refl _)]; simp
  dsimp only
  rw [d1, d2, d3, d4, d5, d6, t0, t1, t2, t3, t4, t5, beN_four h1, beN_four h2, beN_one h3, beN_one h4, beN_four h5, l0, l1, l2, x5, x4, x3, x2, x1]
  simp
theorem text_steps {T : List UInt8} (h : (stepsF T).ok = true) : T = textF (stepsF T).ep (stepsF T).gen (stepsF T).k (stepsF T).n (stepsF T).body ∧ mayF (stepsF T).ep (stepsF T).gen (stepsF T).k (stepsF T).n = true := by
  unfold stepsF at h ⊢
  dsimp only at h ⊢
  generalize hr1 : drB 4 T = r1 at *
  generalize hr2 : drB 4 r1 = r2 at *
  generalize hr3 : drB 4 r2 = r3 at *
  generalize hr4 : drB 1 r3 = r4 at *
  generalize hr5 : drB 1 r4 = r5 at *
  generalize hr6 : drB 4 r5 = r6 at *
  generalize hr7 : drB (beN (tkB 4 r5)) r6 = r7 at *
  rw [Bool.and_eq_true, Bool.and_eq_true, Bool.not_eq_true', beq_iff_eq] at h
  obtain ⟨⟨hb, h7⟩, hm⟩ := h
  obtain ⟨hb, g7⟩ := badB_no hb
  obtain ⟨hb, g6⟩ := badB_no hb
  obtain ⟨hb, g5⟩ := badB_no hb
  obtain ⟨hb, g4⟩ := badB_no hb
  obtain ⟨hb, g3⟩ := badB_no hb
  obtain ⟨hb, g2⟩ := badB_no hb
  have hT : tkB 4 T = [109, 97, 110, 49] := by
    by_cases e : tkB 4 T = [109, 97, 110, 49]
    · exact e
    · rw [bne_iff_ne.2 e] at hb; cases hb
  have g1 : 4 ≤ T.length := by
    rcases Nat.lt_or_ge T.length 4 with h1 | h1
    · unfold tkB at hT
      rw [if_neg (by omega)] at hT; cases hT
    · exact h1
  refine ⟨?_, hm⟩
  rw [text_flat, tk_len g7, four_beN (tk_len g2), four_beN (tk_len g3), one_beN (tk_len g4), one_beN (tk_len g5), four_beN (tk_len g6)]
  have e7 : r7 = [] := List.length_eq_zero_iff.1 h7
  have k7 := tk_dr g7
  rw [hr7, e7, List.append_nil] at k7
  have k6 := tk_dr g6
  have k5 := tk_dr g5
  have k4 := tk_dr g4
  have k3 := tk_dr g3
  have k2 := tk_dr g2
  have k1 := tk_dr g1
  rw [hr1, hT] at k1
  rw [hr2] at k2
  rw [hr3] at k3
  rw [hr4] at k4
  rw [hr5] at k5
  rw [hr6] at k6
  rw [k7, k6, k5, k4, k3, k2, k1]
theorem sealF_length (t : List UInt8) : (sealF t).length = t.length + 32 := by unfold sealF; rw [List.length_append, SH.sumB_length]
theorem textOf_seal (t : List UInt8) : textOf (sealF t) = t := by
  unfold textOf
  rw [sealF_length, Nat.add_sub_cancel]
  unfold sealF
  rw [List.take_left]
theorem sealOk_seal (t : List UInt8) : sealOk (sealF t) = true := by
  unfold sealOk
  rw [textOf_seal, sealF_length, Nat.add_sub_cancel]
  unfold sealF
  rw [List.drop_left]
  exact beq_iff_eq.2 rfl
theorem seal_ok {d : List UInt8} (hz : 32 ≤ d.length) (h : sealOk d = true) : d = sealF (textOf d) := by
  unfold sealOk at h
  have := beq_iff_eq.1 h
  unfold sealF
  rw [this]
  unfold textOf
  rw [List.take_append_drop]
theorem may_nat {ep gen k n : Nat} (h : mayF ep gen k n = true) : ep ≤ 2147483647 ∧ gen ≤ 2147483647 ∧ 1 ≤ k ∧ k ≤ n ∧ n ≤ 12 := by
  have := mayF_true.1 h
  omega
theorem readOk_seal {ep gen k n : Nat} {body : List UInt8} (hm : mayF ep gen k n = true) (hl : body.length + 50 ≤ 65536) : readOk (sealF (textF ep gen k n body)) = true := by
  have := may_nat hm
  unfold readOk sizeOk
  rw [textOf_seal, sealOk_seal, sealF_length, textF_length, steps_text ep gen k n body (by omega) (by omega) (by omega) (by omega) (by omega), decide_eq_true (by omega), decide_eq_true (by omega)]
  simpa using hm
theorem readF_seal {ep gen k n : Nat} {body : List UInt8} (hm : mayF ep gen k n = true) (hl : body.length + 50 ≤ 65536) : readF (sealF (textF ep gen k n body)) = (frV ep gen k n (strB body), 0) := by
  have := may_nat hm
  unfold readF
  rw [if_pos (readOk_seal hm hl), textOf_seal, steps_text ep gen k n body (by omega) (by omega) (by omega) (by omega) (by omega)]
theorem readOk_is {d : List UInt8} (h : readOk d = true) : ∃ (ep gen k n : Nat) (body : List UInt8), mayF ep gen k n = true ∧ body.length + 50 ≤ 65536 ∧ d = sealF (textF ep gen k n body) := by
  unfold readOk sizeOk at h
  simp only [Bool.and_eq_true, decide_eq_true_eq] at h
  obtain ⟨⟨⟨h1, h2⟩, h3⟩, h4⟩ := h
  have e := seal_ok h1 h3
  obtain ⟨h5, h6⟩ := text_steps h4
  refine ⟨_, _, _, _, (stepsF (textOf d)).body, h6, ?_, ?_⟩
  · have := congrArg List.length e
    rw [sealF_length, h5, textF_length] at this
    omega
  · rw [← h5]; exact e
theorem readF_no {d : List UInt8} (h : readOk d = false) : readF d = (frV 0 0 0 0 ⟨#[]⟩, 4) := by
  unfold readF
  rw [h, if_neg (by decide)]
theorem makeF_yes {ep gen k n : Nat} {body : List UInt8} (hm : mayF ep gen k n = true) (hl : body.length + 50 ≤ 65536) : makeF ep gen k n (strB body) = (strB (sealF (textF ep gen k n body)), 0) := by
  unfold makeF
  rw [if_pos hm, if_pos (by rw [strB_size]; exact hl)]
  rfl
theorem makeF_ok {ep gen k n : Int} {b : ByteArray} (h : (makeF ep gen k n b).2 = 0) : mayF ep gen k n = true ∧ b.size + 50 ≤ 65536 ∧ (makeF ep gen k n b).1 = strB (sealF (textF ep.toNat gen.toNat k.toNat n.toNat b.data.toList)) := by
  unfold makeF at h ⊢
  split at h
  · rename_i h1
    split at h
    · rename_i h2
      rw [if_pos h1, if_pos h2]
      exact ⟨h1, h2, rfl⟩
    · cases h
  · cases h
end Go.Proofs.Ytcapalofocmmoaa
