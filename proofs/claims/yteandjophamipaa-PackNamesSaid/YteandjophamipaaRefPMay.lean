/- The walk of the document's test on packs. -/
import Derived.Test.YteandjophamipaaPackSpec
namespace Go.Proofs.Yteandjophamipaa
open Go.RowKit
set_option maxRecDepth 100000 in
set_option maxHeartbeats 4000000 in
theorem refpmay_any (v : Value) (l : List ByteArray) (w : World) (h : TextsAt w.heap v l) : Calls Try.prog 19 #[v] w fun e w' => e = .returned (.bool (mayP l)) ∧ ∃ n, w' = w.drewN n := by
  obtain ⟨p, q, rfl⟩ := seq_shape h
  have hl63 : l.length ≤ 9223372036854775807 := let ⟨_, _, _, x, _⟩ := h; x
  by_cases h0 : l.length < 1
  · have e0 : l = [] := List.length_eq_zero_iff.1 (by omega)
    subst e0
    go_enter Try.func19, Try.ntmps19
    go_wp2
    go_ret
    exact ⟨rfl, 0, rfl⟩
  · by_cases h9 : 4096 < l.length
    · have HR := Lib.hid (mayP_many h9)
      have g1 : decide ((l.length : Int) < 1) = false := decide_eq_false (by omega)
      have g2 : decide ((4096 : Int) < (l.length : Int)) = true := decide_eq_true (by omega)
      have g3 : decide (4096 < l.length) = true := decide_eq_true h9
      have g4 : decide (l.length < 1) = false := decide_eq_false h0
      clear h h9 h0
      go_enter Try.func19, Try.ntmps19
      go_wp2
      go_ret
      exact ⟨by rw [HR.out] <;> rfl, 0, rfl⟩
    · obtain ⟨b0, o0, c0, _, e0, _, _⟩ := seq_cell h (i := 0) (by omega)
      injection e0 with e1 _ e2
      subst e1 e2
      have H := Lib.hid h
      have g1 : decide ((l.length : Int) < 1) = false := decide_eq_false (by omega)
      have g2 : decide ((4096 : Int) < (l.length : Int)) = false := decide_eq_false (by omega)
      have g3 : decide (4096 < l.length) = false := decide_eq_false h9
      have g4 : decide (l.length < 1) = false := decide_eq_false h0
      clear h
      go_enter Try.func19, Try.ntmps19
      go_wp2
      clear g1 g2 g3 g4
      go_loopw [3, 4] (fun t i wr => ∃ k : Nat, k ≤ l.length ∧ i = .int .i64 k ∧ t = .int .i64 (total (l.take k) : Int) ∧ Hid (chunksOk l k = true) ∧ total (l.take k) ≤ 16384 * k ∧ ∃ n, wr = w.drewN n) (fun _ i _ => l.length - (intOf i).toNat)
      case atStart => exact ⟨0, by omega, rfl, rfl, rfl, by simp [total], 0, rfl⟩
      case round =>
        obtain ⟨k, hk, rfl, rfl, hO, hT, n0, rfl⟩ := hrel
        by_cases hlt : k < l.length
        · have hlt64 : (k : Int) < (l.length : Int) := by omega
          have hk0 : (0 : Int) ≤ (k : Int) := by omega
          obtain ⟨u, d1, r1⟩ := seq_at H.out hlt
          unfold IsText at r1
          subst r1
          rw [← atP_get hlt] at d1
          have HC := Lib.hid (@mayP_chunk l k hlt)
          have HI := Lib.hid (@chunkOk_iff l k)
          have HTS := Lib.hid (total_take hlt)
          have HOS := Lib.hid (chunksOk_succ l k)
          have HAT : Hid (atP l k = l[k]) := atP_get hlt
          generalize hs : atP l k = s at *
          have HS := Lib.hid hs
          clear hs
          generalize total (l.take k) = t at *
          by_cases h1 : 1 ≤ s.size ∧ s.size ≤ 16384
          · obtain ⟨h1, h2⟩ := h1
            have g1 : decide (s.size < 1) = false := decide_eq_false (by omega)
            have g2 : decide ((s.size : Int) < 1) = false := decide_eq_false (by omega)
            have g3 : decide ((16384 : Int) < (s.size : Int)) = false := decide_eq_false (by omega)
            have g4 : decide (16384 < s.size) = false := decide_eq_false (by omega)
            go_wp2
            clear g1 g2 g3 g4
            go_loopw [5] (fun i wx => ∃ j : Nat, j ≤ k ∧ i = .int .i64 j ∧ Hid (s ∉ l.take j) ∧ ∃ n, wx = w.drewN n) (fun i _ => k - (intOf i).toNat)
            case atStart => exact ⟨0, by omega, rfl, by show ¬ _; simp, n0, rfl⟩
            case round =>
              obtain ⟨j, hj, rfl, hN, n1, rfl⟩ := hrel
              have d1 : (w.drewN n1).cell? ⟨b0, o0 + k, none⟩ = some (.string s) := d1
              by_cases hjk : j < k
              · have hj64 : (j : Int) < (k : Int) := by omega
                have hjl64 : (j : Int) < (l.length : Int) := by omega
                have hj0 : (0 : Int) ≤ (j : Int) := by omega
                obtain ⟨u', d2, r2⟩ := seq_at H.out (show j < l.length by omega)
                unfold IsText at r2
                subst r2
                have d2 : (w.drewN n1).cell? ⟨b0, o0 + j, none⟩ = some (.string l[j]) := d2
                have HTK : Hid (l.take (j + 1) = l.take j ++ [l[j]]) := (List.take_append_getElem (by omega)).symm
                have hse := txt_eq l[j] s
                have HM : Hid (l[j] = s → s ∈ l.take k) := fun e => by
                  rw [← e, List.mem_take_iff_getElem]
                  exact ⟨j, by omega, rfl⟩
                generalize l[j] = x at *
                by_cases hxs : x = s
                · rw [decide_eq_true hxs] at hse
                  have HR : Hid (mayP l = false) := HC.out (by
                    cases hx : chunkOk l k with
                    | false => rfl
                    | true => exact absurd (HM.out hxs) (HI.out.1 hx).2.2)
                  clear hxs
                  go_wp2_with fail
                  go_quiet (fail)
                  go_wp2
                  go_ret
                  exact ⟨by rw [HR.out] <;> rfl, _, drew_two _ _ _⟩
                · rw [decide_eq_false hxs] at hse
                  have HN2 : Hid (s ∉ l.take (j + 1)) := by
                    show ¬ _
                    rw [HTK.out, List.mem_append, List.mem_singleton]
                    exact fun h => h.elim hN.out (fun e => hxs e.symm)
                  clear hxs
                  go_wp2_with fail
                  go_quiet (fail)
                  go_wp2
                  exact ⟨⟨j + 1, by omega, by go_num, HN2, _, (by first | rfl | exact drew_two _ _ _)⟩, by simp [intOf]; omega⟩
              · obtain rfl : j = k := by omega
                have HON : Hid (chunksOk l (j + 1) = true) := by
                  show _ = _
                  rw [HOS.out, hO.out, HI.out.2 ⟨h1, h2, hN.out⟩]; rfl
                go_wp2
                exact ⟨⟨j + 1, by omega, by go_num, by rw [HTS.out]; go_num, HON, by rw [HTS.out]; omega, _, rfl⟩, by simp [intOf]; omega⟩
          · have HR : Hid (mayP l = false) := HC.out (by
              cases hx : chunkOk l k with
              | false => rfl
              | true => exact absurd ⟨(HI.out.1 hx).1, (HI.out.1 hx).2.1⟩ h1)
            by_cases h2 : s.size < 1
            · have g1 : decide (s.size < 1) = true := decide_eq_true (by omega)
              have g2 : decide ((s.size : Int) < 1) = true := decide_eq_true (by omega)
              clear h1
              go_wp2
              go_ret
              exact ⟨by rw [HR.out] <;> rfl, _, rfl⟩
            · have g1 : decide (s.size < 1) = false := decide_eq_false (by omega)
              have g2 : decide ((s.size : Int) < 1) = false := decide_eq_false (by omega)
              have g3 : decide ((16384 : Int) < (s.size : Int)) = true := decide_eq_true (by omega)
              have g4 : decide (16384 < s.size) = true := decide_eq_true (by omega)
              clear h1
              go_wp2
              go_ret
              exact ⟨by rw [HR.out] <;> rfl, _, rfl⟩
        · obtain rfl : k = l.length := by omega
          have HO := hO
          rw [List.take_length] at hT ⊢
          have HR := Lib.hid (mayP_all HO.out (by omega))
          by_cases h1 : l.length = 1
          · have g1 : ((l.length : Int) == 1) = true := by rw [beq_iff_eq]; omega
            have HE : Hid (mayP l = true) := by show _ = _; rw [HR.out, decide_eq_true h1]; rfl
            clear h1
            go_wp2
            go_ret
            exact ⟨by rw [HE.out] <;> rfl, _, rfl⟩
          · have g1 : ((l.length : Int) == 1) = false := beq_eq_false_iff_ne.2 (by omega)
            have HE : Hid (mayP l = decide (total l ≤ 4096)) := by show _ = _; rw [HR.out, decide_eq_false h1]; rfl
            generalize total l = t at *
            by_cases h2 : t ≤ 4096
            · have g4 : decide ((t : Int) ≤ 4096) = true := decide_eq_true (by omega)
              have g5 : decide (t ≤ 4096) = true := decide_eq_true h2
              clear h1
              go_wp2
              go_ret
              exact ⟨by rw [HE.out, g5] <;> rfl, _, rfl⟩
            · have g4 : decide ((t : Int) ≤ 4096) = false := decide_eq_false (by omega)
              have g5 : decide (t ≤ 4096) = false := decide_eq_false h2
              clear h1
              go_wp2
              go_ret
              exact ⟨by rw [HE.out, g5] <;> rfl, _, rfl⟩
end Go.Proofs.Yteandjophamipaa
