/- The walk of the reference's Filled. -/
import Derived.Test.YteandjophamipaaShaB
import Derived.Test.YteandjophamipaaOwnG
import Derived.Deep.LoopGhost
namespace Go.Proofs.Yteandjophamipaa
open Go.RowKit
theorem own_shape {α : Type} {base : Nat} {E : TypeId} {R : Value → α → Prop} {h : Array Obj} {v : Value} {l : List α} (o : OwnG base E R h v l) : ∃ p q, v = .slice p l.length q := by
  rcases o with ⟨rfl, rfl⟩ | ⟨g, cap, rfl, _⟩
  · exact ⟨none, 0, rfl⟩
  · exact ⟨_, _, rfl⟩
theorem own_then {α : Type} {base : Nat} {E : TypeId} {R : Value → α → Prop} {w w1 w2 : World} {v : Value} {l : List α} (o : OwnG base E R w1.heap v l) (k : Keeps w w1) (hb : w.heap.size ≤ base) (hb1 : base ≤ w1.heap.size) (c : Chg (fun k => v.ownBlock = some k) w1 w2) : Keeps w w2 :=
  k.then (o.kept c hb1) hb
set_option maxRecDepth 100000 in
set_option maxHeartbeats 4000000 in
theorem filled_any (s : ByteArray) (w : World) (hs : s.size ≤ 1000000) :
    Calls Try.prog 73 #[.string s] w fun e w' => ∃ v, e = .returned v ∧ OwnG w.heap.size 5 IsByte w'.heap v (SH.padB s.data.toList) ∧ Keeps w w' := by
  have HN : Hid (SH.noughts s.size < 64) := SH.noughts_lt _
  have HSL : Hid (s.data.toList.length = s.size) := data_size s
  go_enter Try.func73, Try.ntmps73
  go_wp2_with (first
    | (refine wp_bytesG rfl 9 56 (.tmp 6) rfl s rfl Try.underlying9 Try.underlying56 Try.underlying5 (by omega) ?_; intro v1 w1 ho hk)
    | (at_builtin; refine wp_appG elByte (R := IsByte) (l := s.data.toList) (m := [128]) (fun u x h => by rw [h]; rfl) rfl (.tmp 7) (.tmp 8) rfl w.heap.size _ rfl ?c1 _ rfl ?c2 ?c3 ?c4 ?_))
  case c1 => exact ho.keeps (kal _ _)
  case c2 => exact rowAt_lit w1 [128] 1 1 rfl (by omega)
  case c3 => rw [HSL.out]; simp; omega
  case c4 => have := hk.size; simp; omega
  intro v2 w2 ho2 hc2 _
  have HO : Hid (OwnG w.heap.size 5 IsByte w2.heap v2 (s.data.toList ++ [128] ++ List.replicate 0 0)) := by
    show OwnG _ _ _ _ _ _
    rw [List.replicate_zero, List.append_nil]; exact ho2
  have HK : Hid (Keeps w w2) := own_then (ho.keeps (kal _ _)) (hk.trans (kal _ _)) (Nat.le_refl _) (by have := hk.size; simp; omega) hc2
  clear ho hk ho2 hc2
  generalize hS : s.data.toList = S at *
  have HSS := Lib.hid hS
  clear hS
  go_wp2_with fail
  go_loopg [3] (SH.noughts s.size) (fun g v wr => ∃ k : Nat, Hid (g + k = SH.noughts s.size) ∧ Hid (OwnG w.heap.size 5 IsByte wr.heap v (S ++ [128] ++ List.replicate k 0)) ∧ Hid (Keeps w wr))
  case atStart => exact ⟨0, rfl, HO, HK⟩
  case round =>
    obtain ⟨k, hg, hO, hK⟩ := hrel
    obtain ⟨pv, qv, rfl⟩ := own_shape hO.out
    have HZL : Hid ((S ++ [128] ++ List.replicate k 0).length = s.size + 1 + k) := by
      show _ = _
      rw [List.length_append, List.length_append, List.length_replicate, HSL.out]; rfl
    generalize hF : S ++ [128] ++ List.replicate k 0 = F at *
    have HF := Lib.hid hF
    have hfl : F.length ≤ 1000066 := by have := HZL.out; have := HN.out; have := hg.out; omega
    have hszr := hK.out.size
    clear hF HO HK
    by_cases hlt : k < SH.noughts s.size
    · have g1 : ((F.length : Int) % 64 != 56) = true := by
        rw [bne_iff_ne]
        have h1 := SH.noughts_first s.size k hlt
        have h2 := HZL.out
        omega
      have g2 : ((F.length : Int).tmod 64 != 56) = true := by rw [Int.tmod_eq_emod_of_nonneg (by omega)]; exact g1
      have HZ : Hid (gk - 1 + (k + 1) = SH.noughts s.size) := by show _ = _; have := hg.out; omega
      have HGK : Hid (gk - 1 < gk) := by show _ < _; have := hg.out; omega
      clear hlt hg
      go_wp2_with (at_builtin; refine wp_appG elByte (R := IsByte) (l := F) (m := [0]) (fun u x h => by rw [h]; rfl) rfl (.tmp 14) (.tmp 15) rfl w.heap.size _ rfl ?d1 _ rfl ?d2 ?d3 ?d4 ?_)
      case d1 => exact hO.out.keeps (kal _ _)
      case d2 => exact rowAt_lit wr [0] 1 1 rfl (by omega)
      case d3 => simp; omega
      case d4 => simp; omega
      intro v3 w3 ho3 hc3 _
      have HP : Hid (OwnG w.heap.size 5 IsByte w3.heap v3 (S ++ [128] ++ List.replicate (k + 1) 0)) := by
        show OwnG _ _ _ _ _ _
        rw [List.replicate_succ', ← List.append_assoc, HF.out]; exact ho3
      have HK3 : Hid (Keeps w w3) := own_then (hO.out.keeps (kal _ _)) (hK.out.trans (kal _ _)) (Nat.le_refl _) (by simp; omega) hc3
      clear ho3 hc3 hO hK
      go_wp2_with fail
      go_roundg (gk - 1)
      case rel => exact ⟨k + 1, HZ, HP, HK3⟩
      case measure => exact HGK.out
    · have h0 : k = SH.noughts s.size := by have := hg.out; omega
      have g1 : ((F.length : Int) % 64 != 56) = false := by
        have h1 := SH.noughts_ok s.size
        have h2 := HZL.out
        rw [bne_eq_false_iff_eq]; omega
      have g2 : ((F.length : Int).tmod 64 != 56) = false := by rw [Int.tmod_eq_emod_of_nonneg (by omega)]; exact g1
      have HO1 : Hid (OwnG w.heap.size 5 IsByte wr.heap (.slice pv F.length qv) (F ++ (SH.be64 (8 * s.size)).take 0)) := by
        show OwnG _ _ _ _ _ _
        rw [List.take_zero, List.append_nil]; exact hO.out
      have HPAD : Hid (F ++ (SH.be64 (8 * s.size)).take 8 = SH.padB S) := by
        show _ = _
        rw [List.take_of_length_le (by rw [SH.be64_length]; exact Nat.le_refl _), ← HF.out]
        unfold SH.padB SH.fill
        rw [HSL.out, h0]
        simp only [List.append_assoc]
      clear hlt hg hO h0
      go_wp2_with fail
      clear g1 g2
      go_loopw [3, 5] (fun v i wx => ∃ j : Nat, j ≤ 8 ∧ i = .int .i64 (8 * (j : Int) - 8) ∧ Hid (OwnG w.heap.size 5 IsByte wx.heap v (F ++ (SH.be64 (8 * s.size)).take (8 - j))) ∧ Hid (Keeps w wx)) (fun _ i _ => (intOf i + 8).toNat)
      case atStart => exact ⟨8, by omega, rfl, HO1, hK⟩
      case round =>
        obtain ⟨j, hj, rfl, hO, hK2⟩ := hrel
        obtain ⟨p2, q2, rfl⟩ := own_shape hO.out
        have HL2 : Hid ((F ++ (SH.be64 (8 * s.size)).take (8 - j)).length ≤ 1000074) := by
          show _ ≤ _
          rw [List.length_append, List.length_take]; omega
        cases j with
        | succ j =>
          have e1 : 8 * ((j + 1 : Nat) : Int) - 8 = ((8 * j : Nat) : Int) := by omega
          rw [e1]
          have HV : Hid ((s.size : Int) * 8 / 2 ^ (8 * j) % 256 = (((SH.be64 (8 * s.size)).getD (7 - j) 0).toNat : Int)) := by
            show _ = _
            rw [be64_at (8 * s.size) (by omega), Nat.mul_comm 8 s.size]
            simp
          have HT : Hid (F ++ (SH.be64 (8 * s.size)).take (8 - j) = (F ++ (SH.be64 (8 * s.size)).take (8 - (j + 1))) ++ [(SH.be64 (8 * s.size)).getD (7 - j) 0]) := by
            show _ = _
            have e2 : 8 - j = (8 - (j + 1)) + 1 := by omega
            have e3 : 8 - (j + 1) = 7 - j := by omega
            have hl8 : 7 - j < (SH.be64 (8 * s.size)).length := by rw [SH.be64_length]; omega
            rw [e2, e3, List.append_assoc, List.take_succ_eq_append_getElem hl8, List.getD_eq_getElem?_getD, List.getElem?_eq_getElem hl8]; rfl
          generalize F ++ (SH.be64 (8 * s.size)).take (8 - (j + 1)) = G at *
          have hszx := hK2.out.size
          clear e1
          generalize (SH.be64 (8 * s.size)).getD (7 - j) 0 = x at *
          have g0 : decide (0 ≤ 8 * (j : Int)) = true := decide_eq_true (by omega)
          go_wp2_with (at_builtin; refine wp_appG elByte (R := IsByte) (l := G) (m := [x]) (fun u x h => by rw [h]; rfl) rfl (.tmp 25) (.tmp 31) rfl w.heap.size _ rfl ?f1 _ rfl ?f2 ?f3 ?f4 ?_)
          case f1 => exact hO.out.keeps (kal _ _)
          case f2 =>
            rw [HV.out]
            exact rowAt_lit wr [x] 1 1 rfl (by omega)
          case f3 => have := HL2.out; simp; omega
          case f4 => simp; omega
          intro v3 w3 ho3 hc3 _
          have HP : Hid (OwnG w.heap.size 5 IsByte w3.heap v3 (F ++ (SH.be64 (8 * s.size)).take (8 - j))) := by
            show OwnG _ _ _ _ _ _
            rw [HT.out]; exact ho3
          have HK3 : Hid (Keeps w w3) := own_then (hO.out.keeps (kal _ _)) (hK2.out.trans (kal _ _)) (Nat.le_refl _) (by simp; omega) hc3
          clear ho3 hc3 hO hK2 hK
          go_wp2_with fail
          exact ⟨⟨j, by omega, by go_num, HP, HK3⟩, by simp [intOf]; omega⟩
        | zero =>
          have HFIN : Hid (OwnG w.heap.size 5 IsByte wr.heap (.slice p2 (SH.padB S).length q2) (SH.padB S)) := by
            show OwnG _ _ _ _ _ _
            rw [← HPAD.out]; exact hO.out
          have e1 : (8 * ((0 : Nat) : Int) - 8) = -8 := by omega
          rw [e1]
          rw [show (F ++ (SH.be64 (8 * s.size)).take (8 - 0)) = SH.padB S from HPAD.out]
          clear hO HL2
          go_wp2_with fail
          go_ret
          exact ⟨_, rfl, by rw [HSS.out]; exact HFIN.out, hK2.out⟩
end Go.Proofs.Yteandjophamipaa
