/- The walk of (*sha.Hash).Sum. -/
import Derived.Test.YtcapalofocmmoaaShaObj
import Derived.Test.YtcapalofocmmoaaBuild1
namespace Go.Proofs.Ytcapalofocmmoaa
open Go.RowKit
theorem own_lit (w : World) (base : Nat) (e : TypeId) (hb : base ≤ w.heap.size) (cs : Array Value) (hc : cs.size ≤ maxLen) : (w.alloc (.cells cs e)).ownsRow base e 1 (.slice (some ⟨w.heap.size, 0, none⟩) cs.size cs.size) cs.size cs.toList :=
  ⟨by rw [Array.length_toList, Nat.mul_one], .inr ⟨w.heap.size, cs.size, cs, rfl, hb, by unfold World.alloc; simp, Nat.le_refl _, hc, by rw [Nat.mul_one], by rw [Nat.mul_one]; exact List.take_of_length_le (by rw [Array.length_toList]; exact Nat.le_refl _)⟩⟩
/-- The bytes behind the text, as far as they are told. -/
def endB (n j : Nat) : List UInt8 := [128] ++ List.replicate (SH.noughts n) 0 ++ (SH.be64 (8 * n)).take j
theorem endB_zero (n : Nat) : endB n 0 = [128] ++ List.replicate (SH.noughts n) 0 := by unfold endB; simp
theorem endB_all (n : Nat) : endB n 8 = SH.fill n := by unfold endB SH.fill; rw [List.take_of_length_le (by rw [SH.be64_length]; exact Nat.le_refl _)]
theorem endB_length (n j : Nat) : (endB n j).length ≤ 73 := by unfold endB; have := SH.noughts_lt n; simp [SH.be64_length]; omega
theorem endB_succ (n : Nat) {j : Nat} (h : j < 8) : endB n (j + 1) = endB n j ++ [(SH.be64 (8 * n)).getD j 0] := by
  unfold endB
  rw [List.append_assoc _ _ [_]]
  congr 1
  rw [List.getD_eq_getElem?_getD, List.getElem?_eq_getElem (by rw [SH.be64_length]; exact h)]
  exact (List.take_append_getElem (by rw [SH.be64_length]; exact h)).symm
theorem be64_at (n : Nat) {j : Nat} (h : j < 8) : ((SH.be64 n).getD (7 - j) 0).toNat = n / 2 ^ (8 * j) % 256 := by
  match j, h with
  | 0, _ => simp [SH.be64]
  | 1, _ => simp [SH.be64]
  | 2, _ => simp [SH.be64]
  | 3, _ => simp [SH.be64]
  | 4, _ => simp [SH.be64]
  | 5, _ => simp [SH.be64]
  | 6, _ => simp [SH.be64]
  | 7, _ => simp [SH.be64]
theorem four_at (n : Nat) {j : Nat} (h : j < 4) : ((SH.four n).getD (3 - j) 0).toNat = n / 2 ^ (8 * j) % 256 := by
  match j, h with
  | 0, _ => simp [SH.four]
  | 1, _ => simp [SH.four]
  | 2, _ => simp [SH.four]
  | 3, _ => simp [SH.four]
set_option maxRecDepth 100000 in
theorem index_arr (l : List Nat) (k : Nat) (hl : l.length = 8) (hk : k < 8) (w : World) : (Instr.index 65 (.agg (l.map fun (x : Nat) => Value.int .u32 (x : Int)).toArray) (.int .i64 (k : Int))).run Try.prog w = .ok (.int .u32 (l.getD k 0 : Int)) w := by
  have e : l = [l.getD 0 0, l.getD 1 0, l.getD 2 0, l.getD 3 0, l.getD 4 0, l.getD 5 0, l.getD 6 0, l.getD 7 0] := by
    match l, hl with
    | [a, b, c, d, e, f, g, h], _ => rfl
  generalize l.getD 0 0 = a at e
  generalize l.getD 1 0 = b at e
  generalize l.getD 2 0 = c at e
  generalize l.getD 3 0 = d at e
  generalize l.getD 4 0 = e5 at e
  generalize l.getD 5 0 = f at e
  generalize l.getD 6 0 = g at e
  generalize l.getD 7 0 = h at e
  subst e
  have hk8 : k = 0 ∨ k = 1 ∨ k = 2 ∨ k = 3 ∨ k = 4 ∨ k = 5 ∨ k = 6 ∨ k = 7 := by omega
  rcases hk8 with rfl | rfl | rfl | rfl | rfl | rfl | rfl | rfl <;> rfl
theorem four_take (x : Nat) {j : Nat} (h : j < 4) : (SH.four x).take (4 - j) = (SH.four x).take (4 - (j + 1)) ++ [(SH.four x).getD (3 - j) 0] := by
  match j, h with
  | 0, _ => rfl
  | 1, _ => rfl
  | 2, _ => rfl
  | 3, _ => rfl
theorem dig_succ (N : List Nat) (hl : N.length = 8) {k : Nat} (hk : k < 8) : SH.digest (N.take (k + 1)) = SH.digest (N.take k) ++ SH.four (N.getD k 0) := by
  unfold SH.digest
  rw [List.getD_eq_getElem?_getD, List.getElem?_eq_getElem (by omega), ← List.take_append_getElem (by omega), List.flatMap_append]
  simp
theorem dig_len (N : List Nat) (hl : N.length = 8) {k : Nat} (hk : k ≤ 8) : (SH.digest (N.take k)).length = 4 * k := by
  induction k with
  | zero => rfl
  | succ k ih => rw [dig_succ N hl (by omega), List.length_append, ih (by omega)]; show 4 * k + 4 = _; omega
set_option maxRecDepth 100000 in
set_option maxHeartbeats 4000000 in
theorem hsum_any (b : Nat) (l : List UInt8) (w : World) (h : HashM w b l) (hlen : l.length ≤ 70368744177664) :
    Calls Try.prog 18 #[.pointer (some ⟨b, 0, none⟩)] w fun e w' => e = .returned (.string (strB (SH.sumB l))) ∧ Keeps w w' := by
  have H := Lib.hid h
  have hb := HashR.lt h
  clear h
  go_enter Try.func18, Try.ntmps18
  go_wp2_with fail
  refine Calls.mono (hcopy_any b l w H.out) ?_
  rintro e w1 ⟨rfl, h1, k1⟩
  have H1 := Lib.hid h1
  have K1 := Lib.hid k1
  have HB1 := Lib.hid (H.out.keeps k1)
  have hs1 := k1.size
  have hc1 := HashR.lt h1
  clear h1 k1
  obtain ⟨m, hm64, HMQ, ar, cr, c8⟩ : ∃ m : Nat, m < 64 ∧ Hid (m = l.length % 64) ∧ ∃ ar cr, w1.cell? ⟨w.heap.size, 8, none⟩ = some (.slice ar m cr) := by
    obtain ⟨vr, br, or, qr, g1, g2, g3, g4, g5⟩ := H1.out
    obtain ⟨ar, cr, rfl⟩ := seq_shape g2.1
    exact ⟨(SH.left l).length, by rw [SH.left_length]; omega, SH.left_length l, ar, cr, by rw [cell_of]; exact g1.rest⟩
  have HN : Hid (SH.noughts l.length < 64) := SH.noughts_lt _
  go_wp2_with fail
  go_loopg [4] (SH.noughts l.length) (fun g v wr => ∃ k : Nat, Hid (g + k = SH.noughts l.length) ∧ Hid (OwnSeq w1.heap.size 5 IsByte wr v ([128] ++ List.replicate k 0)) ∧ Hid (Keeps w1 wr))
  case atStart => exact ⟨0, rfl, bytesV_seq (r := [128]) (own_lit w1 w1.heap.size 5 (Nat.le_refl _) #[.int .u8 128] (by unfold maxLen; simp)), kal _ _⟩
  case round =>
    obtain ⟨k, hg, hO, hK⟩ := hrel
    obtain ⟨us, hu1, hu2, hu3⟩ := hO.out
    have HU := Lib.hid hu1
    have HL2 := Lib.hid hu2
    have H3 := Lib.hid hu3
    have hul : us.length = k + 1 := by rw [hu2]; simp
    have HUL := Lib.hid hul
    have hle : us.length ≤ 64 := by have := hg.out; have := HN.out; omega
    have hpos : 1 ≤ us.length := by omega
    obtain ⟨pv, qv, rfl⟩ := own_slice hu1
    have c8r := keeps_cell hK.out c8
    have hszr := hK.out.size
    clear hu1 hu2 hu3 hul
    by_cases hlt : k < SH.noughts l.length
    · have g1 : (((m : Int) + (us.length : Int) + 8) % 64 != 0) = true := by
        rw [bne_iff_ne]
        have h1 := SH.noughts_first l.length k hlt
        have h2 := HUL.out
        have h3 := HMQ.out
        omega
      have HZ : Hid (gk - 1 + (k + 1) = SH.noughts l.length) := by show _ = _; have := hg.out; omega
      have HGK : Hid (gk - 1 < gk) := by show _ < _; have := hg.out; omega
      clear hlt hg
      go_wp2_with (at_builtin; refine wp_app1 elByte rfl _ _ rfl w1.heap.size _ us rfl (HU.out.alloc _) _ (.int .u8 0) rfl ?c1 rfl ?c2 ?c3 ?_)
      case c1 => exact World.cell?_alloc_new _ _ _ _
      case c2 => omega
      case c3 => simp; omega
      intro v' w6 hown hchg
      have HP : Hid (OwnSeq w1.heap.size 5 IsByte w6 v' ([128] ++ List.replicate (k + 1) 0)) := by
        show OwnSeq _ _ _ _ _ _
        rw [List.replicate_succ', ← List.append_assoc]
        exact OwnSeq.push (R := IsByte) HL2.out H3.out hown (fun _ _ _ x => x) rfl
      have HK6 : Hid (Keeps w1 w6) := hK.out.then (Chg.kept ((((Chg.refl _ wr).alloc _).trans hchg).mono (T' := fun b => w1.heap.size ≤ b) fun b _ hb => (own_block HU.out b hb).1) hszr) (Nat.le_refl _)
      clear hown hchg
      go_wp2_with fail
      go_roundg (gk - 1)
      case rel => exact ⟨k + 1, HZ, HP, HK6⟩
      case measure => exact HGK.out
    · have g1 : (((m : Int) + (us.length : Int) + 8) % 64 != 0) = false := by
        have h0 : k = SH.noughts l.length := by have := hg.out; omega
        have h1 := SH.noughts_ok l.length
        have h2 := HUL.out
        have h3 := HMQ.out
        rw [bne_eq_false_iff_eq]; omega
      have HO1 : Hid (OwnSeq w1.heap.size 5 IsByte wr (.slice pv us.length qv) (endB l.length 0)) := by
        have h0 : k = SH.noughts l.length := by have := hg.out; omega
        show OwnSeq _ _ _ _ _ _
        rw [endB_zero, ← h0]; exact hO.out
      clear hlt hg hO HU HL2 H3 HUL
      go_wp2_with fail
      clear g1
      generalize hn : l.length = n at *
      have HNL := Lib.hid hn
      clear hn
      go_loopw [4, 5] (fun v i wx => ∃ j : Nat, j ≤ 8 ∧ i = .int .i64 ((j : Int) - 1) ∧ Hid (OwnSeq w1.heap.size 5 IsByte wx v (endB n (8 - j))) ∧ Hid (Keeps w1 wx)) (fun _ i _ => (intOf i + 1).toNat)
      case atStart => exact ⟨8, by omega, rfl, HO1, hK⟩
      case round =>
        obtain ⟨j, hj, rfl, hO, hK2⟩ := hrel
        cases j with
        | succ j =>
          have e1 : ((j + 1 : Nat) : Int) - 1 = (j : Int) := by omega
          rw [e1]
          obtain ⟨us2, hu1, hu2, hu3⟩ := hO.out
          have HU := Lib.hid hu1
          have HL2 := Lib.hid hu2
          have H3 := Lib.hid hu3
          have hle2 : us2.length ≤ 73 := by rw [hu2]; exact endB_length n _
          obtain ⟨p2, q2, rfl⟩ := own_slice hu1
          have c9 : wr.cell? ⟨b, 9, none⟩ = some (.int .i64 (n : Int)) := by rw [← HNL.out]; exact keeps_cell hK2.out HB1.out.tot.1
          clear hu1 hu2 hu3 e1
          have HV : Hid ((n : Int) * 8 / 2 ^ (8 * j) % 256 = (((SH.be64 (8 * n)).getD (7 - j) 0).toNat : Int)) := by
            show _ = _
            rw [be64_at (8 * n) (by omega), Nat.mul_comm 8 n]
            simp
          have hszx := hK2.out.size
          go_wp2_with (at_builtin; refine wp_app1 elByte rfl _ _ rfl w1.heap.size _ us2 rfl (HU.out.alloc _) _ (.int .u8 ((n : Int) * 8 / 2 ^ (8 * j) % 256)) rfl ?d1 rfl ?d2 ?d3 ?_)
          case d1 => exact World.cell?_alloc_new _ _ _ _
          case d2 => omega
          case d3 => simp; omega
          intro v' w6 hown hchg
          have HP : Hid (OwnSeq w1.heap.size 5 IsByte w6 v' (endB n (8 - j))) := by
            show OwnSeq _ _ _ _ _ _
            have e2 : 8 - j = (8 - (j + 1)) + 1 := by omega
            rw [e2, endB_succ n (by omega)]
            exact OwnSeq.push (R := IsByte) HL2.out H3.out hown (fun _ _ _ x => x) (by show _ = _; rw [HV.out, show 7 - j = 8 - (j + 1) from by omega])
          have HK6 : Hid (Keeps w1 w6) := hK2.out.then (Chg.kept ((((Chg.refl _ wr).alloc _).trans hchg).mono (T' := fun b => w1.heap.size ≤ b) fun b _ hb => (own_block HU.out b hb).1) hszx) (Nat.le_refl _)
          clear hown hchg HU HL2 H3 HV
          go_wp2_with fail
          exact ⟨⟨j, by omega, rfl, HP, HK6⟩, by simp [intOf]⟩
        | zero =>
          have HOF : Hid (RowAt wr.heap u4 (SH.fill n)) := by
            show RowAt _ _ _
            have h0 := hO.out.seq (by have := endB_length n (8 - 0); omega)
            rw [← endB_all n]; exact SeqIn.at_ h0
          have HHR := Lib.hid (H1.out.keeps hK2.out)
          have hszr := hK2.out.size
          have hbd : (SH.left l).length + (SH.fill n).length ≤ 140737488355328 := by rw [SH.left_length, SH.fill_length]; have := HN.out; omega
          have HP1 : Hid (HashR wr w.heap.size (SH.fed l) (SH.left l) n) := by
            show HashR _ _ _ _ _
            rw [← HNL.out]; exact HHR.out
          have HKR := Lib.hid (K1.out.trans hK2.out)
          clear hO hK2 hK HO1 HHR H1 HB1 c8
          go_wp2_with fail
          refine Calls.mono (take_any w.heap.size (SH.fed l) (SH.left l) (SH.fill n) n _ wr HP1.out HOF.out hbd) ?_
          rintro e w5 ⟨rfl, h5, k5⟩
          have HF : Hid (HashR w5 w.heap.size (SH.fed (SH.padB l)) (SH.left (SH.padB l)) n) := by
            have := take_fed (w' := w5) h5
            show HashR _ _ _ _ _
            unfold SH.padB; rw [HNL.out]; exact this
          have HK5 : Hid (Keeps w w5) := ((Kept.any (T := fun x => x = w.heap.size) HKR.out).trans k5).keeps fun x h1 h2 => by omega
          have hz5 := HK5.out.size
          have hz6 := HashR.lt h5
          have HOK := Lib.hid (SH.ok_fed (SH.padB l))
          clear h5 k5
          obtain ⟨vr5, br5, or5, qr5, g5⟩ := HF.out
          have HC5 := Lib.hid g5.1
          clear g5
          have HS8 : Hid ((Try.prog.info? 65).map (·.size) = some ((SH.fed (SH.padB l)).map fun (x : Nat) => Value.int .u32 (x : Int)).length) := by show _ = _; rw [List.length_map, HOK.out.1]; kernel_rfl
          have HB6 : Hid (Bld w5.heap.size w5.heap.size [] (w5.alloc (.cells #[.pointer none, .slice none 0 0] 76))) := Bld.new w5
          have HC6 := Lib.hid (HC5.out.al (.cells #[.pointer none, .slice none 0 0] 76))
          go_wp2_with (refine wpList_load_mid rfl 65 (.tmp 52) rfl w.heap.size 0 rfl _ _ (HC6.out.range HOK.out.1) Try.underlying65 rfl HS8.out ?_)
          obtain ⟨w6, hw6⟩ : ∃ w6, w6 = w5.alloc (.cells #[.pointer none, .slice none 0 0] 76) := ⟨_, rfl⟩
          rw [← hw6] at HB6 ⊢
          have HK6 : Hid (Keeps w w6) := by rw [hw6]; exact HK5.out.trans (kal _ _)
          have hz7 : w5.heap.size ≤ w6.heap.size := by rw [hw6]; simp
          clear hw6 HC6 HC5 HF
          generalize hNe : SH.fed (SH.padB l) = N at *
          have HNE := Lib.hid hNe
          clear hNe
          have HBN : Hid (∀ k : Nat, k < 8 → N.getD k 0 < 4294967296) := fun k _ => HOK.out.2 k
          have HIX : Hid (∀ k : Nat, k < 8 → ∀ wx : World, (Instr.index 65 (.agg (N.map fun (x : Nat) => Value.int .u32 (x : Int)).toArray) (.int .i64 (k : Int))).run Try.prog wx = .ok (.int .u32 (N.getD k 0 : Int)) wx) := fun k hk wx => index_arr N k HOK.out.1 hk wx
          generalize (N.map fun (x : Nat) => Value.int .u32 (x : Int)).toArray = A8 at *
          go_loopw [54] (fun i wx => ∃ k : Nat, k ≤ 8 ∧ i = .int .i64 k ∧ Hid (Bld w5.heap.size w5.heap.size (SH.digest (N.take k)) wx) ∧ Hid (Keeps w wx) ∧ w5.heap.size ≤ wx.heap.size) (fun i _ => 8 - (intOf i).toNat)
          case atStart => exact ⟨0, by omega, rfl, HB6, HK6, hz7⟩
          case round =>
            clear HB6 HK6 hz7
            obtain ⟨k, hk, rfl, hB, hK, hz7⟩ := hrel
            by_cases hlt : k < 8
            · have i1 : (k : Int) < 8 := by omega
              have hix := HIX.out k hlt
              have hxb := HBN.out k hlt
              have HDS : Hid (SH.digest (N.take (k + 1)) = SH.digest (N.take k) ++ SH.four (N.getD k 0)) := dig_succ N HOK.out.1 hlt
              have HDL : Hid ((SH.digest (N.take k)).length = 4 * k) := dig_len N HOK.out.1 hk
              generalize N.getD k 0 = x at *
              generalize SH.digest (N.take k) = D at *
              go_wp2_with fail
              obtain ⟨wo, rfl⟩ : ∃ wo : World, wo = wr := ⟨_, rfl⟩
              go_loopw [9] (fun i wx => ∃ j : Nat, j ≤ 4 ∧ i = .int .i64 ((j : Int) - 1) ∧ Hid (Bld w5.heap.size w5.heap.size (D ++ (SH.four x).take (4 - j)) wx) ∧ Hid (Keeps w wx) ∧ w5.heap.size ≤ wx.heap.size) (fun i _ => (intOf i + 1).toNat)
              case atStart => exact ⟨4, by omega, rfl, by simpa using hB, hK, hz7⟩
              case round =>
                clear hB hK hz7
                obtain ⟨j, hj, rfl, hB, hK, hz7⟩ := hrel
                cases j with
                | succ j =>
                  have e1 : ((j + 1 : Nat) : Int) - 1 = (j : Int) := by omega
                  rw [e1]
                  clear e1
                  have HV : Hid ((x : Int) / 2 ^ (8 * j) % 256 = (((SH.four x).getD (3 - j) 0).toNat : Int)) := by
                    show _ = _
                    rw [four_at x (by omega)]
                    simp
                  have HT : Hid ((SH.four x).take (4 - j) = (SH.four x).take (4 - (j + 1)) ++ [(SH.four x).getD (3 - j) 0]) := four_take x (by omega)
                  have hln : (D ++ (SH.four x).take (4 - (j + 1))).length + 1 ≤ 140737488355328 := by rw [List.length_append, HDL.out, List.length_take]; omega
                  go_wp2_with fail
                  rw [HV.out]
                  refine Calls.mono (wbyte_any w5.heap.size w5.heap.size _ ((SH.four x).getD (3 - j) 0) _ hB.out hln hz7) ?_
                  rintro e w7 ⟨rfl, hb7, k7⟩
                  have HB7 : Hid (Bld w5.heap.size w5.heap.size (D ++ (SH.four x).take (4 - j)) w7) := by
                    show Bld _ _ _ _
                    rw [HT.out, ← List.append_assoc]; exact hb7
                  have HK7 : Hid (Keeps w w7) := hK.out.then k7.1.kept hz5
                  have hz8 := k7.size
                  clear hb7 k7 hB hK HV HT hln
                  go_wp2_with fail
                  exact ⟨⟨j, by omega, rfl, HB7, HK7, by omega⟩, by simp [intOf]⟩
                | zero =>
                  have HB8 : Hid (Bld w5.heap.size w5.heap.size (SH.digest (N.take (k + 1))) wr) := by
                    show Bld _ _ _ _
                    rw [HDS.out]; exact hB.out
                  clear hB HDS HDL
                  go_wp2_with fail
                  exact ⟨⟨k + 1, by omega, by go_num, HB8, hK, hz7⟩, by simp [intOf]; omega⟩
            · obtain rfl : k = 8 := by omega
              have HB9 : Hid (Bld w5.heap.size w5.heap.size (SH.digest N) wr) := by
                show Bld _ _ _ _
                have := hB.out
                rwa [List.take_of_length_le (by rw [HOK.out.1]; exact Nat.le_refl _)] at this
              clear hB
              go_wp2_with fail
              refine Calls.mono (btext_any w5.heap.size w5.heap.size _ _ HB9.out hz7) ?_
              rintro e w8 ⟨rfl, _, k8⟩
              have HK8 : Hid (Keeps w w8) := hK.out.then k8.1.kept hz5
              clear k8
              go_wp2
              go_ret
              exact ⟨by show Ending.returned (.string (strB (SH.digest N))) = _; unfold SH.sumB; rw [HNE.out], HK8.out⟩
theorem hnew_m (w : World) : Calls Try.prog 15 #[] w fun e w' => e = .returned (.pointer (some ⟨w.heap.size, 0, none⟩)) ∧ HashM w' w.heap.size [] ∧ Keeps w w' :=
  (hnew_any w).mono fun e w' ⟨h1, ⟨vo, h2, h3⟩, h4⟩ => by
    refine ⟨h1, ?_, h4⟩
    obtain ⟨p, q, e0⟩ := seq_shape (SeqIn.at_ h3)
    have e1 : vo = .slice p 64 q := e0
    subst e1
    obtain ⟨b, o, c, u, e2, _⟩ := seq_cell (SeqIn.at_ h3) (i := 0) (by decide)
    injection e2 with e3 _ _
    subst e3
    exact ⟨.slice none 0 0, b, o, q, h2, ⟨SeqAt.nil _ _, fun p n q e h => by cases e⟩, capOk_mk (Nat.le_refl _), SeqIn.ty h3, SH.ok_HL⟩
set_option maxRecDepth 100000 in
set_option maxHeartbeats 4000000 in
theorem ssum_any (s : ByteArray) (w : World) (hs : s.size ≤ 70368744177664) : Calls Try.prog 23 #[.string s] w fun e w' => e = .returned (.string (strB (SH.sumB s.data.toList))) ∧ Keeps w w' := by
  go_enter Try.func23, Try.ntmps23
  go_wp2_with fail
  refine Calls.mono (hnew_m w) ?_
  rintro e w1 ⟨rfl, h1, k1⟩
  have K1 := Lib.hid k1
  have H1 := Lib.hid h1
  clear h1 k1
  go_wp2_with fail
  refine Calls.mono (hadd_any w.heap.size [] s w1 H1.out (by simp; omega)) ?_
  rintro e w2 ⟨rfl, h2, k2⟩
  have H2 : Hid (HashM w2 w.heap.size s.data.toList) := h2
  have K2 : Hid (Keeps w w2) := ((Kept.any (T := fun x => x = w.heap.size) K1.out).trans k2).keeps fun x h1 h2 => by omega
  clear h2 k2
  go_wp2_with fail
  refine Calls.mono (hsum_any w.heap.size s.data.toList w2 H2.out (by rw [data_size]; omega)) ?_
  rintro e w3 ⟨rfl, k3⟩
  have K3 := Lib.hid (K2.out.trans k3)
  clear k3
  go_wp2
  go_ret
  exact ⟨rfl, K3.out⟩
theorem hsum_nil (w : World) : Calls Try.prog 18 #[.pointer none] w fun e w' => e = .returned (.string (strB (SH.sumB []))) ∧ Keeps w w' := by
  go_enter Try.func18, Try.ntmps18
  go_wp2_with fail
  refine Calls.mono (ssum_any ⟨#[]⟩ w (by simp [ByteArray.size])) ?_
  rintro e w1 ⟨rfl, k1⟩
  have K1 := Lib.hid k1
  clear k1
  go_wp2
  go_ret
  exact ⟨rfl, K1.out⟩
end Go.Proofs.Ytcapalofocmmoaa
