/- The walk of the law PackLong. -/
import Derived.Test.YteandjophamipaaPackWorks
import Derived.Test.YteandjophamipaaPackInv
namespace Go.Proofs.Yteandjophamipaa
open Go.RowKit
theorem makeP_no {l : List ByteArray} (h : mayP l = false) : makeP l = (ByteArray.empty, [], 4) := by unfold makeP; rw [h]; rfl
theorem makeP_yes {l : List ByteArray} (h : mayP l = true) : makeP l = (strB (blobP l), offsP l, 0) := by unfold makeP; rw [h]; rfl
theorem keeps_drew (w : World) (n : Nat) : Keeps w (w.drewN n) := keeps_refl w
set_option maxRecDepth 100000 in
set_option maxHeartbeats 4000000 in
theorem plong_any (va : Value) (a : List ByteArray) (vb : Value) (b : List ByteArray) (w : World) (ha : TextsAt w.heap va a) (hb : TextsAt w.heap vb b) : Calls Try.prog 7 #[va, vb] w fun e w' => e = .returned (.bool true) ∧ Keeps w w' := by
  obtain ⟨pa, qa, rfl⟩ := seq_shape ha
  obtain ⟨pb, qb, rfl⟩ := seq_shape hb
  have HA := Lib.hid ha
  have HB := Lib.hid hb
  have he : (ByteArray.empty.toList == []) = true := by rw [toList_eq]; decide
  clear ha hb
  go_enter Try.func7, Try.ntmps7
  go_wp2_with fail
  refine Calls.mono (pworks_any _) ?_
  rintro e w1 ⟨rfl, hk⟩
  have HA := Lib.hid (SeqAt.keeps HA.out hk)
  have HB := Lib.hid (SeqAt.keeps HB.out hk)
  have HK := Lib.hid hk
  clear hk
  go_wp2_with fail
  refine Calls.mono (pwide_any _ a _ HA.out) ?_
  rintro e w' ⟨z, rfl, rfl⟩
  cases z with
  | true =>
    go_wp2_with fail
    refine Calls.mono (pworks_any _) ?_
    rintro e w2 ⟨rfl, hk⟩
    go_wp2_with fail
    go_ret
    exact ⟨rfl, HK.out.trans hk⟩
  | false =>
  go_wp2_with fail
  refine Calls.mono (pwide_any _ b _ HB.out) ?_
  rintro e w' ⟨z, rfl, rfl⟩
  cases z with
  | true =>
    go_wp2_with fail
    refine Calls.mono (pworks_any _) ?_
    rintro e w2 ⟨rfl, hk⟩
    go_wp2_with fail
    go_ret
    exact ⟨rfl, HK.out.trans hk⟩
  | false =>
  cases hma : mayP a with
  | false =>
    have HMA := Lib.hid (makeP_no hma)
    clear hma
    cases hmb : mayP b with
    | false =>
      have HMB := Lib.hid (makeP_no hmb)
      clear hmb
      go_wp2_with fail
      refine Calls.mono (makeP_e (pmake_any _ a _ HA.out) HMA.out) ?_
      rintro e w2 ⟨v2, rfl, _, hk⟩
      have HB := Lib.hid (SeqAt.keeps HB.out hk)
      have HK := Lib.hid (HK.out.trans hk)
      clear hk
      go_wp2_with fail
      refine Calls.mono (makeP_e (pmake_any _ b _ HB.out) HMB.out) ?_
      rintro e w3 ⟨v3, rfl, _, hk⟩
      have HK := Lib.hid (HK.out.trans hk)
      clear hk
      go_wp2_with fail
      go_ret
      exact ⟨rfl, HK.out⟩
    | true =>
      have HMB := Lib.hid (makeP_yes hmb)
      clear hmb
      go_wp2_with fail
      refine Calls.mono (makeP_e (pmake_any _ a _ HA.out) HMA.out) ?_
      rintro e w2 ⟨v2, rfl, _, hk⟩
      have HB := Lib.hid (SeqAt.keeps HB.out hk)
      have HK := Lib.hid (HK.out.trans hk)
      clear hk
      go_wp2_with fail
      refine Calls.mono (makeP_e (pmake_any _ b _ HB.out) HMB.out) ?_
      rintro e w3 ⟨v3, rfl, _, hk⟩
      have HK := Lib.hid (HK.out.trans hk)
      clear hk
      go_wp2_with fail
      go_ret
      exact ⟨rfl, HK.out⟩
  | true =>
    have HMA := Lib.hid (makeP_yes hma)
    cases hmb : mayP b with
    | false =>
      have HMB := Lib.hid (makeP_no hmb)
      clear hmb hma
      go_wp2_with fail
      refine Calls.mono (makeP_e (pmake_any _ a _ HA.out) HMA.out) ?_
      rintro e w2 ⟨v2, rfl, _, hk⟩
      have HB := Lib.hid (SeqAt.keeps HB.out hk)
      have HK := Lib.hid (HK.out.trans hk)
      clear hk
      go_wp2_with fail
      refine Calls.mono (makeP_e (pmake_any _ b _ HB.out) HMB.out) ?_
      rintro e w3 ⟨v3, rfl, _, hk⟩
      have HK := Lib.hid (HK.out.trans hk)
      clear hk
      go_wp2_with fail
      go_ret
      exact ⟨rfl, HK.out⟩
    | true =>
      have HMB := Lib.hid (makeP_yes hmb)
      have hla : a.length ≤ 4096 := mayP_len hma
      have hlb : b.length ≤ 4096 := mayP_len hmb
      have HSA : Hid (∀ k, k < a.length → (atP a k).size ≤ 16384) := fun k hk => (mayP_size hma hk).2
      have HBE : Hid ((strB (blobP a) = strB (blobP b)) → a = b) := fun h => blob_inj hma hmb (strB_inj h)
      have hsz : (strB (blobP a)).size = 6 + 2 * a.length + total a := by rw [strB_size, blob_length]
      have hta : total a ≤ 16384 := by
        rcases (mayP_iff.1 hma).2.2.2 with h | h
        · obtain ⟨c, rfl⟩ := List.length_eq_one_iff.1 h
          have := ((mayP_iff.1 hma).2.1 c (List.mem_singleton.2 rfl)).2
          show (List.map _ _).sum ≤ _
          simp; exact this
        · omega
      have HSZ := Lib.hid hsz
      clear hmb hma hsz
      go_wp2_with fail
      refine Calls.mono (makeP_e (pmake_any _ a _ HA.out) HMA.out) ?_
      rintro e w2 ⟨v2, rfl, _, hk⟩
      have HA := Lib.hid (SeqAt.keeps HA.out hk)
      have HB := Lib.hid (SeqAt.keeps HB.out hk)
      have HK := Lib.hid (HK.out.trans hk)
      clear hk
      go_wp2_with fail
      refine Calls.mono (makeP_e (pmake_any _ b _ HB.out) HMB.out) ?_
      rintro e w3 ⟨v3, rfl, _, hk⟩
      have HA := Lib.hid (SeqAt.keeps HA.out hk)
      have HB := Lib.hid (SeqAt.keeps HB.out hk)
      have HK := Lib.hid (HK.out.trans hk)
      clear hk
      go_wp2_with fail
      go_loopw [11, 12, 13] (fun t s i wr => ∃ (k : Nat) (z : Bool) (n : Nat), k ≤ a.length ∧ i = .int .i64 k ∧ t = .int .i64 ((6 + 2 * a.length + total (a.take k) : Nat) : Int) ∧ s = .bool z ∧ (z = true → a.length = b.length) ∧ Hid (z = true → ∀ j, j < k → atP a j = atP b j) ∧ Hid (z = false → a ≠ b) ∧ wr = w3.drewN n) (fun _ _ i _ => a.length - (intOf i).toNat)
      case atStart =>
        refine ⟨0, _, 0, by omega, rfl, by go_num, rfl, ?_, ?_, ?_, rfl⟩
        · intro h; simp at h; omega
        · intro _ j hj; omega
        · intro h e; subst e; simp at h
      case round =>
        obtain ⟨k, z, n, hk, rfl, rfl, rfl, hzl, hz1, hz0, rfl⟩ := hrel
        by_cases hlt : k < a.length
        · have hlt64 : (k : Int) < (a.length : Int) := by omega
          have hk0 : (0 : Int) ≤ (k : Int) := by omega
          obtain ⟨b1, o1, c1, u1, e1, d1, r1⟩ := seq_cell HA.out hlt
          injection e1 with e3 e4 e5
          subst e3 e5
          unfold IsText at r1
          subst r1
          rw [← atP_get hlt] at d1
          have d1' : (w3.drewN n).cell? ⟨b1, o1 + k, none⟩ = some (.string (atP a k)) := d1
          have HT : Hid (total (a.take (k + 1)) = total (a.take k) + (atP a k).size) := total_take hlt
          have hs := HSA.out k hlt
          have htk : total (a.take k) ≤ total a := total_le a k
          clear e4
          cases z with
          | true =>
            have hlb : k < b.length := by have := hzl rfl; omega
            have hlb64 : (k : Int) < (b.length : Int) := by omega
            obtain ⟨b2, o2, c2, u2, e2, d2, r2⟩ := seq_cell HB.out hlb
            injection e2 with e6 e7 e8
            subst e6 e8
            unfold IsText at r2
            subst r2
            rw [← atP_get hlb] at d2
            have d2' : (w3.drewN n).cell? ⟨b2, o2 + k, none⟩ = some (.string (atP b k)) := d2
            have HL := Lib.hid (hzl rfl)
            have HZ1 : Hid (atP a k = atP b k → ∀ j, j < k + 1 → atP a j = atP b j) := fun e j hj => by
              rcases Nat.lt_or_ge j k with h | h
              · exact hz1.out rfl j h
              · obtain rfl : j = k := by omega
                exact e
            have HZ0 : Hid (atP a k ≠ atP b k → a ≠ b) := fun h e => h (by subst e; rfl)
            generalize atP a k = x at *
            generalize atP b k = y at *
            generalize total (a.take k) = t at *
            clear e7 hzl hz1 hz0
            by_cases hxy : x = y
            · have g2 : (x.toList == y.toList) = true := by rw [txt_eq]; exact decide_eq_true hxy
              have HZ := Lib.hid (HZ1.out hxy)
              clear hxy HZ1 HZ0
              go_wp2_with fail
              go_quiet (fail)
              go_wp2
              exact ⟨⟨k + 1, true, _, by omega, by go_num, by rw [HT.out]; go_num, rfl, fun _ => HL.out, fun _ => HZ.out, (fun h => by cases h), (by first | rfl | exact drew_two _ _ _)⟩, by simp [intOf]; omega⟩
            · have g2 : (x.toList == y.toList) = false := by rw [txt_eq]; exact decide_eq_false hxy
              have HZ := Lib.hid (HZ0.out hxy)
              clear hxy HZ1 HZ0
              go_wp2_with fail
              go_quiet (fail)
              go_wp2
              exact ⟨⟨k + 1, false, _, by omega, by go_num, by rw [HT.out]; go_num, rfl, (fun h => by cases h), (fun h => by cases h), fun _ => HZ.out, (by first | rfl | exact drew_two _ _ _)⟩, by simp [intOf]; omega⟩
          | false =>
            have HZ := Lib.hid (hz0.out rfl)
            generalize atP a k = x at *
            generalize total (a.take k) = t at *
            clear hzl hz1 hz0
            go_wp2_with fail
            go_quiet (fail)
            go_wp2
            exact ⟨⟨k + 1, false, _, by omega, by go_num, by rw [HT.out]; go_num, rfl, (fun h => by cases h), (fun h => by cases h), fun _ => HZ.out, (by first | rfl | exact drew_two _ _ _)⟩, by simp [intOf]; omega⟩
        · obtain rfl : k = a.length := by omega
          have HSZ2 : Hid ((strB (blobP a)).size = 6 + 2 * a.length + total (a.take a.length)) := by show _ = _; rw [List.take_length]; exact HSZ.out
          have HKE : Hid (Keeps w (w3.drewN n)) := HK.out
          cases z with
          | true =>
            have g2 : ((strB (blobP a)).toList == (strB (blobP b)).toList) = true := by
              have : a = b := List.ext_getElem (hzl rfl) fun j h1 h2 => by
                rw [← atP_get h1, ← atP_get h2]; exact hz1.out rfl j h1
              rw [this]; simp
            have g3 := HSZ2.out
            generalize strB (blobP a) = x at *
            generalize strB (blobP b) = y at *
            generalize total (a.take a.length) = t at *
            clear hzl hz1 hz0
            go_wp2_with fail
            go_ret
            exact ⟨rfl, HKE.out⟩
          | false =>
            have g2 : ((strB (blobP a)).toList == (strB (blobP b)).toList) = false := by
              rw [txt_eq]; exact decide_eq_false fun e => hz0.out rfl (HBE.out e)
            have g3 := HSZ2.out
            generalize strB (blobP a) = x at *
            generalize strB (blobP b) = y at *
            generalize total (a.take a.length) = t at *
            clear hzl hz1 hz0
            go_wp2_with fail
            go_ret
            exact ⟨rfl, HKE.out⟩
end Go.Proofs.Yteandjophamipaa
