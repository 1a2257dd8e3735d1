/- The walk of the law FrameTurned. -/
import Derived.Test.YtcapalofocmmoaaLawFLong
import Derived.Test.YtcapalofocmmoaaByteSet
namespace Go.Proofs.Ytcapalofocmmoaa
open Go.RowKit
theorem turned {L : List UInt8} {κ : Nat} {y : UInt8} (hL : readOk L = true) (h' : readOk (L.set κ y) = true) : (L.set κ y).drop (L.length - 32) = L.drop (L.length - 32) ∧ SH.sumB ((L.set κ y).take (L.length - 32)) = SH.sumB (L.take (L.length - 32)) := by
  have a := seal_is hL
  have b := seal_is h'
  rw [List.length_set] at b
  rcases Nat.lt_or_ge κ (L.length - 32) with h | h
  · have e : (L.set κ y).drop (L.length - 32) = L.drop (L.length - 32) := by rw [List.drop_set, if_pos h]
    exact ⟨e, by rw [b, e, a]⟩
  · have e : (L.set κ y).take (L.length - 32) = L.take (L.length - 32) := by rw [List.take_set, List.set_eq_of_length_le (by rw [List.length_take]; omega)]
    exact ⟨by rw [← b, e, a], by rw [e]⟩
theorem u64_nat (m : Nat) (h : m ≤ 1000000) : IntKind.u64.wrap (m : Int) = (m : Int) := by rw [IntKind.wrap_u64]; omega
theorem fset_row {S : ByteArray} {T : Nat → Prop} {w : World} {r c κ : Nat} (hrow : RowIn T w.heap (.slice (some ⟨r, 0, none⟩) S.size c) S.data.toList) (h0 : 0 < S.data.toList.length) (hk : κ < S.size) (y : UInt8) (hm : S.size ≤ 5050) :
    RowAt (w.setCell ⟨r, κ, none⟩ (.int .u8 (y.toNat : Int))).heap (.slice (some ⟨r, 0, none⟩) S.size c) (S.data.toList.set κ y) := by
  have e := data_size S
  have := (BRow.of hrow h0).set_at (c := c) (j := κ) (by omega) y (by omega)
  rwa [e] at this
def ftu4 (m c nn B : Nat) (S : ByteArray) : Nat → Value → Prop
  | i, v => v = ([.int .i64 4, .bool true, .bool true, undef, undef, undef, undef, undef, undef, undef, undef, undef, undef, undef, undef, undef, undef, undef, undef, undef, undef, undef, undef, .bool true, .bool true] : List Value).getD i undef
def ftu0 (m c nn B : Nat) (S U : ByteArray) (L Lp : List UInt8) : Nat → Value → Prop
  | i, v => v = ([.int .i64 0, .bool false, .bool false, .slice (some ⟨B, 0, none⟩) m c, .int .i64 (nn : Int), .slice (some ⟨B, 0, none⟩) nn c, .string (strB (Lp.take nn)), .string U, .string S, .int .i64 (nn : Int), .string (strB (L.take nn)), .string U, .bool true, .bool true, .slice (some ⟨B, 0, none⟩) m c, .int .i64 (nn : Int), .slice (some ⟨B, nn, none⟩) (m - nn) (c - nn), .string (strB (Lp.drop nn)), .string S, .int .i64 (nn : Int), .string (strB (Lp.drop nn)), .bool true, .bool true, .bool true, .bool true] : List Value).getD i undef
set_option maxRecDepth 100000 in
set_option maxHeartbeats 8000000 in
theorem fturned_any (a1 a2 a3 a4 : Int) (s : ByteArray) (at_ x : Int) (w : World) (hx : 0 ≤ x ∧ x < 256) : Calls Try.prog 14 #[frV a1 a2 a3 a4 s, .int .i64 at_, .int .u8 x] w fun e w' => e = .returned (.bool true) ∧ Keeps w w' := by
  have HWK := Lib.hid frworks_any
  unfold frV
  obtain ⟨y, rfl⟩ : ∃ y : UInt8, x = (y.toNat : Int) := ⟨UInt8.ofNat x.toNat, by rw [UInt8.toNat_ofNat']; omega⟩
  clear hx
  obtain ⟨w1, hw1⟩ : ∃ w1, w1 = w.alloc (.cells (frA a1 a2 a3 a4 s) 47) := ⟨_, rfl⟩
  have HK1 : Hid (Keeps w w1) := by rw [hw1]; exact kal _ _
  have HA1 : Hid (FrRow w1 w.heap.size a1 a2 a3 a4 s) := by rw [hw1]; exact heap_alloc_new _ _
  unfold frA at hw1
  by_cases ga : 5000 < s.size
  · have ia : (5000 : Int) < (s.size : Int) := by omega
    have da : decide ((5000 : Int) < (s.size : Int)) = true := decide_eq_true ia
    clear ga
    go_enter Try.func14, Try.ntmps14
    go_wp2_with fail
    rw [← hw1]
    clear hw1
    generalize w.heap.size = N at *
    refine Calls.mono (HWK.out _) ?_
    rintro e w2 ⟨rfl, hk⟩
    have HK2 := Lib.hid (HK1.out.trans hk)
    have HA2 : Hid (FrRow w2 N a1 a2 a3 a4 s) := HA1.out.keeps hk
    clear hk HK1 HA1
    have c0 : w2.cell? ⟨N, 0, none⟩ = some (.int .i64 a1) := cell_of_row w2 N 0 _ _ _ HA2.out
    have c1 : w2.cell? ⟨N, 1, none⟩ = some (.int .i64 a2) := cell_of_row w2 N 1 _ _ _ HA2.out
    have c2 : w2.cell? ⟨N, 2, none⟩ = some (.int .i64 a3) := cell_of_row w2 N 2 _ _ _ HA2.out
    have c3 : w2.cell? ⟨N, 3, none⟩ = some (.int .i64 a4) := cell_of_row w2 N 3 _ _ _ HA2.out
    have c4 : w2.cell? ⟨N, 4, none⟩ = some (.string s) := cell_of_row w2 N 4 _ _ _ HA2.out
    go_wp2_with fail
    refine Calls.mono (HWK.out _) ?_
    rintro e w3 ⟨rfl, hk⟩
    go_wp2_with fail
    go_ret
    exact ⟨rfl, HK2.out.trans hk⟩
  have ia : ¬ (5000 : Int) < (s.size : Int) := by omega
  have da : decide ((5000 : Int) < (s.size : Int)) = false := decide_eq_false ia
  have HM1 := Lib.hid (fun wx => frmake_any a1 a2 a3 a4 s wx (by omega))
  unfold frV at HM1
  rcases makeF_cases a1 a2 a3 a4 s with ⟨E, hE, hm⟩ | ⟨hmay, hsz, hm⟩
  · rw [hm] at HM1
    dsimp only at HM1
    have g5 : (E != 0) = true := by rw [bne_iff_ne]; exact hE
    have g6 : decide (E = 0) = false := decide_eq_false hE
    have g7 : (E == 0) = false := beq_eq_false_iff_ne.2 hE
    clear hm hE ga
    go_enter Try.func14, Try.ntmps14
    go_wp2_with fail
    rw [← hw1]
    clear hw1
    generalize w.heap.size = N at *
    refine Calls.mono (HWK.out _) ?_
    rintro e w2 ⟨rfl, hk⟩
    have HK2 := Lib.hid (HK1.out.trans hk)
    have HA2 : Hid (FrRow w2 N a1 a2 a3 a4 s) := HA1.out.keeps hk
    clear hk HK1 HA1
    have c0 : w2.cell? ⟨N, 0, none⟩ = some (.int .i64 a1) := cell_of_row w2 N 0 _ _ _ HA2.out
    have c1 : w2.cell? ⟨N, 1, none⟩ = some (.int .i64 a2) := cell_of_row w2 N 1 _ _ _ HA2.out
    have c2 : w2.cell? ⟨N, 2, none⟩ = some (.int .i64 a3) := cell_of_row w2 N 2 _ _ _ HA2.out
    have c3 : w2.cell? ⟨N, 3, none⟩ = some (.int .i64 a4) := cell_of_row w2 N 3 _ _ _ HA2.out
    have c4 : w2.cell? ⟨N, 4, none⟩ = some (.string s) := cell_of_row w2 N 4 _ _ _ HA2.out
    go_wp2_with fail
    refine Calls.mono (HM1.out _) ?_
    rintro e w3 ⟨rfl, hk⟩
    go_wp2_with fail
    go_ret
    exact ⟨rfl, HK2.out.trans hk⟩
  obtain ⟨L, hL⟩ : ∃ L, L = sealF (textF a1.toNat a2.toNat a3.toNat a4.toNat s.data.toList) := ⟨_, rfl⟩
  have m1 := mayF_true.1 hmay
  have hlen : L.length = 50 + s.size := by rw [hL, sealF_length, textF_length, data_size]; omega
  have hok : readOk L = true := by rw [hL]; exact readOk_seal (by rw [show ((a1.toNat : Nat) : Int) = a1 by omega, show ((a2.toNat : Nat) : Int) = a2 by omega, show ((a3.toNat : Nat) : Int) = a3 by omega, show ((a4.toNat : Nat) : Int) = a4 by omega]; exact hmay) (by rw [data_size]; exact hsz)
  have hrd : readF L = (frV a1 a2 a3 a4 s, 0) := by rw [hL, readF_seal (by rw [show ((a1.toNat : Nat) : Int) = a1 by omega, show ((a2.toNat : Nat) : Int) = a2 by omega, show ((a3.toNat : Nat) : Int) = a3 by omega, show ((a4.toNat : Nat) : Int) = a4 by omega]; exact hmay) (by rw [data_size]; exact hsz), show ((a1.toNat : Nat) : Int) = a1 by omega, show ((a2.toNat : Nat) : Int) = a2 by omega, show ((a3.toNat : Nat) : Int) = a3 by omega, show ((a4.toNat : Nat) : Int) = a4 by omega, strB_data]
  rw [hm, ← hL] at HM1
  dsimp only at HM1
  clear m1 hmay hm hL hsz
  obtain ⟨S, hS⟩ : ∃ S, S = strB L := ⟨_, rfl⟩
  have hSL : S.data.toList = L := by rw [hS]; rfl
  have hSz : S.size = L.length := by rw [hS, strB_size]
  rw [← hS] at HM1
  obtain ⟨κ, hκ, hke⟩ := rem_some at_ S.size (by omega) (by omega)
  obtain ⟨Lp, hLp⟩ : ∃ Lp, Lp = L.set κ y := ⟨_, rfl⟩
  have hLpl : Lp.length = L.length := by rw [hLp, List.length_set]
  have HSP : Hid ((strB Lp).size = S.size) := by show _ = _; rw [strB_size, hLpl, hSz]
  obtain ⟨ep, gen, kk, n, b, er, hr⟩ := readF_shape2 Lp
  have HRD := Lib.hid (fun wx => frread_any (strB Lp) wx (by rw [strB_size]; omega))
  rw [show (strB Lp).data.toList = Lp from rfl, hr] at HRD
  unfold frV at HRD
  dsimp only at HRD
  have HER : Hid (er = 4 ∨ (er = 0 ∧ readOk Lp = true)) := by
    show _ ∨ _
    cases h : readOk Lp with
    | true => have := readF_yes h; rw [hr] at this; exact .inr ⟨this, rfl⟩
    | false => have := readF_no2 h; rw [hr] at this; exact .inl this
  have HEQ : Hid (Lp = L → er = 0 ∧ frEq ep gen kk n a1 a2 a3 a4 b s = true) := fun e => by
    rw [e, hrd] at hr
    unfold frV at hr
    cases hr
    exact ⟨rfl, frEq_iff.2 ⟨rfl, rfl, rfl, rfl, rfl⟩⟩
  have HTU : Hid (readOk Lp = true → Lp.drop (L.length - 32) = L.drop (L.length - 32) ∧ SH.sumB (Lp.take (L.length - 32)) = SH.sumB (L.take (L.length - 32))) := fun h => by
    rw [hLp] at h ⊢
    exact turned hok h
  have hq : ((strB Lp).toList == S.toList) = decide (Lp = L) := by
    rw [txt_eq, hS]
    by_cases e : Lp = L
    · subst e; simp
    · rw [decide_eq_false e, decide_eq_false (fun h => e (strB_inj h))]
  clear hr hrd hok hS
  have hke2 : wrap64 ((IntKind.u64.wrap at_).tmod (S.size : Int)) = (κ : Int) := hke
  have hu := u64_nat S.size (by omega)
  obtain ⟨nn, hnn⟩ : ∃ nn, nn = S.size - 32 := ⟨_, rfl⟩
  have hni : (S.size : Int) - 32 = (nn : Int) := by omega
  have hnw : IntKind.i64.wrap (nn : Int) = (nn : Int) := IntWalk.i64_in _ (by omega)
  have hnw2 : IntKind.i64.wrap ((S.size : Int) - 32) = (nn : Int) := by rw [hni]; exact hnw
  have hmb : S.size ≤ 5050 := by omega
  have HNI : Hid (S.size = nn + 32) := by show _ = _; omega
  have hkS : κ < S.size := hκ
  have HNN := Lib.hid hnn
  have HLL := Lib.hid hSz
  have HLP := Lib.hid hLpl
  have HSL := Lib.hid hSL
  have HSET := Lib.hid hLp
  clear hke hκ hnn hSz hlen ga hLpl hSL hLp
  go_enter Try.func14, Try.ntmps14
  go_wp2_with fail
  rw [← hw1]
  clear hw1
  generalize w.heap.size = N at *
  refine Calls.mono (HWK.out _) ?_
  rintro e w2 ⟨rfl, hk⟩
  have HK2 := Lib.hid (HK1.out.trans hk)
  have HA2 : Hid (FrRow w2 N a1 a2 a3 a4 s) := HA1.out.keeps hk
  clear hk HK1 HA1
  have c0 : w2.cell? ⟨N, 0, none⟩ = some (.int .i64 a1) := cell_of_row w2 N 0 _ _ _ HA2.out
  have c1 : w2.cell? ⟨N, 1, none⟩ = some (.int .i64 a2) := cell_of_row w2 N 1 _ _ _ HA2.out
  have c2 : w2.cell? ⟨N, 2, none⟩ = some (.int .i64 a3) := cell_of_row w2 N 2 _ _ _ HA2.out
  have c3 : w2.cell? ⟨N, 3, none⟩ = some (.int .i64 a4) := cell_of_row w2 N 3 _ _ _ HA2.out
  have c4 : w2.cell? ⟨N, 4, none⟩ = some (.string s) := cell_of_row w2 N 4 _ _ _ HA2.out
  go_wp2_with fail
  refine Calls.mono (HM1.out _) ?_
  rintro e w3 ⟨rfl, hk⟩
  have HK3 := Lib.hid (HK2.out.trans hk)
  have HA3 : Hid (FrRow w3 N a1 a2 a3 a4 s) := HA2.out.keeps hk
  clear hk HK2 HA2 HM1 HWK c0 c1 c2 c3 c4
  have h0 : 0 < S.data.toList.length := by rw [HSL.out, ← HLL.out]; omega
  go_wp2_with (refine wp_bytes rfl 9 59 (.tmp 34) rfl S rfl Try.underlying9 Try.underlying59 Try.underlying5 (by omega) ?_; intro c w4 hc hrow hk4; have hb := BRow.of hrow h0; rw [HSL.out, ← HLL.out] at hb; obtain ⟨hbc, hbf⟩ := hb.cell hkS; have HB4 := Lib.hid (fset_row hrow h0 hkS y hmb); rw [HSL.out, ← HSET.out] at HB4; have hcv := conv_row (P := Try.prog) (src := 59) (dst := 9) (e := 5) Try.underlying59 (by kernel_rfl) Try.underlying9 HB4.out)
  refine Calls.mono (HRD.out _) ?_
  rintro e w6 ⟨rfl, hk⟩
  have HK6 : Hid (Keeps w w6) := ((Chg.setCell (Kept.any (T := fun b => w3.heap.size ≤ b) (HK3.out.trans hk4)) (p := ⟨w3.heap.size, κ, none⟩) (fun _ => Nat.le_refl _) _).keeps fun b h1 h2 => by have := HK3.out.size; omega).trans hk
  have HN3 : Hid (N < w3.heap.size) := (Array.getElem?_eq_some_iff.1 HA3.out).1
  have HA6 : Hid (FrRow w6 N a1 a2 a3 a4 s) := ((HA3.out.keeps hk4).chg (T := fun b => b = w3.heap.size) (Chg.setCell (T := fun b => b = w3.heap.size) (Chg.refl _ _) (p := ⟨w3.heap.size, κ, none⟩) (fun _ => rfl) _) (by have := HN3.out; omega)).keeps hk
  have HB6 : Hid (RowAt w6.heap (.slice (some ⟨w3.heap.size, 0, none⟩) S.size c) Lp) := SeqAt.keeps HB4.out hk
  have HCC := Lib.hid hc
  clear hk hk4 hrow hb hbc hbf HB4 hcv HA3 HK3 HRD hc h0 hke2 hu hkS hni hnw hnw2
  generalize w3.heap.size = B at *
  obtain ⟨w7, hw7⟩ : ∃ w7, w7 = w6.alloc (.cells (frA ep gen kk n b) 47) := ⟨_, rfl⟩
  have HK7 : Hid (Keeps w w7) := by rw [hw7]; exact HK6.out.trans (kal _ _)
  have HA7 : Hid (FrRow w7 N a1 a2 a3 a4 s) := by rw [hw7]; exact HA6.out.keeps (kal _ _)
  have HF7 : Hid (FrRow w7 w6.heap.size ep gen kk n b) := by rw [hw7]; exact heap_alloc_new _ _
  have HRW : Hid (RowAt w7.heap (.slice (some ⟨B, 0, none⟩) S.size c) Lp) := by rw [hw7]; exact SeqAt.keeps HB6.out (kal _ _)
  have hcv := conv_row (P := Try.prog) (src := 59) (dst := 9) (e := 5) Try.underlying59 (by kernel_rfl) Try.underlying9 HRW.out
  have c0 : w7.cell? ⟨N, 0, none⟩ = some (.int .i64 a1) := cell_of_row w7 N 0 _ _ _ HA7.out
  have c1 : w7.cell? ⟨N, 1, none⟩ = some (.int .i64 a2) := cell_of_row w7 N 1 _ _ _ HA7.out
  have c2 : w7.cell? ⟨N, 2, none⟩ = some (.int .i64 a3) := cell_of_row w7 N 2 _ _ _ HA7.out
  have c3 : w7.cell? ⟨N, 3, none⟩ = some (.int .i64 a4) := cell_of_row w7 N 3 _ _ _ HA7.out
  have c4 : w7.cell? ⟨N, 4, none⟩ = some (.string s) := cell_of_row w7 N 4 _ _ _ HA7.out
  have f0 : w7.cell? ⟨w6.heap.size, 0, none⟩ = some (.int .i64 ep) := cell_of_row w7 w6.heap.size 0 _ _ _ HF7.out
  have f1 : w7.cell? ⟨w6.heap.size, 1, none⟩ = some (.int .i64 gen) := cell_of_row w7 w6.heap.size 1 _ _ _ HF7.out
  have f2 : w7.cell? ⟨w6.heap.size, 2, none⟩ = some (.int .i64 kk) := cell_of_row w7 w6.heap.size 2 _ _ _ HF7.out
  have f3 : w7.cell? ⟨w6.heap.size, 3, none⟩ = some (.int .i64 n) := cell_of_row w7 w6.heap.size 3 _ _ _ HF7.out
  have f4 : w7.cell? ⟨w6.heap.size, 4, none⟩ = some (.string b) := cell_of_row w7 w6.heap.size 4 _ _ _ HF7.out
  have hqe := run_frEq ep gen kk n a1 a2 a3 a4 b s
  clear HK6 HA6 HB6
  subst hw7
  by_cases hEQ : Lp = L
  · obtain ⟨h1, h2⟩ := HEQ.out hEQ
    rw [h2] at hqe
    rw [decide_eq_true hEQ] at hq
    subst h1
    clear hEQ h2
    go_wp2_with (refine wpList_store_row rfl 47 (.tmp 11) (.tmp 50) rfl w6.heap.size (frA ep gen kk n b) rfl rfl 47 _ (heap_alloc_last w6 _) (by kernel_rfl) rfl (frA_one ep gen kk n b) ?_; rw [World.setRow_alloc_new])
    go_ret
    exact ⟨rfl, HK7.out⟩
  rw [decide_eq_false hEQ] at hq
  rcases HER.out with rfl | ⟨rfl, hro⟩
  · clear hEQ hqe
    go_wp2_with (refine wpList_store_row rfl 47 (.tmp 11) (.tmp 50) rfl w6.heap.size (frA ep gen kk n b) rfl rfl 47 _ (heap_alloc_last w6 _) (by kernel_rfl) rfl (frA_one ep gen kk n b) ?_; rw [World.setRow_alloc_new])
    generalize w6.alloc (.cells (frA ep gen kk n b) 47) = w7 at *
    generalize S.size = m at *
    refine wp_region_stage [63, 64, 65, 66, 67, 68, 69, 70, 71, 72, 73, 74, 75, 76, 77, 78, 79, 80, 81, 82, 83, 84, 85, 86, 6] [[], [0], [1], [2], [2], [2], [2], [2], [2], [2], [2], [2], [2], [2], [13], [13], [13], [13], [13], [13], [13], [13], [2], [2, 22], [23]] [] [0, 0, 0, 0, 0, 0, 0, 0, 0, 0, 0, 0, 0, 0, 0, 0, 0, 0, 0, 0, 0, 0, 0, 0, 0] [3, 4, 5, 6, 7, 8, 9, 10, 11, 12, 13, 14, 15, 16, 17, 18, 19, 20, 21, 22] (fun i v _ => ftu4 m c nn B S i v) (fun w w' => Keeps w w') (fun _ _ w' => Keeps w7 w') (by kernel_rfl) (by kernel_rfl) (by kernel_rfl) (by kernel_rfl) (by kernel_rfl) (by kernel_rfl) (by kernel_rfl) ?_ ?_ ?_ ?_ ?_ ?_ ?_
    · exact fun i v w w' c h => h
    · exact fun w => keeps_refl w
    · exact fun i s vs w _ h => h
    · refine ⟨?_, ?_, ?_, ?_, ?_, ?_, ?_, ?_, ?_, ?_, ?_, ?_, ?_, ?_, ?_, ?_, ?_, ?_, ?_, ?_, ?_, ?_, ?_, ?_, ?_, trivial⟩
      · exact fun g b h => by (cases h)
      · exact fun g b h => by (cases h)
      · exact fun g b h => by (cases h)
      · exact ⟨⟨_, _, rfl, by decide, fun v w h => by (first | (change v = _ at h; subst h; intro x; cases x) | skip)⟩, fun w => rfl⟩
      · exact ⟨⟨_, _, rfl, by decide, fun v w h => by (first | (change v = _ at h; subst h; intro x; cases x) | skip)⟩, fun w => rfl⟩
      · exact ⟨⟨_, _, rfl, by decide, fun v w h => by (first | (change v = _ at h; subst h; intro x; cases x) | skip)⟩, fun w => rfl⟩
      · exact ⟨⟨_, _, rfl, by decide, fun v w h => by (first | (change v = _ at h; subst h; intro x; cases x) | skip)⟩, fun w => rfl⟩
      · exact ⟨⟨_, _, rfl, by decide, fun v w h => by (first | (change v = _ at h; subst h; intro x; cases x) | skip)⟩, fun w => rfl⟩
      · exact ⟨⟨_, _, rfl, by decide, fun v w h => by (first | (change v = _ at h; subst h; intro x; cases x) | skip)⟩, fun w => rfl⟩
      · exact ⟨⟨_, _, rfl, by decide, fun v w h => by (first | (change v = _ at h; subst h; intro x; cases x) | skip)⟩, fun w => rfl⟩
      · exact ⟨⟨_, _, rfl, by decide, fun v w h => by (first | (change v = _ at h; subst h; intro x; cases x) | skip)⟩, fun w => rfl⟩
      · exact ⟨⟨_, _, rfl, by decide, fun v w h => by (first | (change v = _ at h; subst h; intro x; cases x) | skip)⟩, fun w => rfl⟩
      · exact ⟨⟨_, _, rfl, by decide, fun v w h => by (first | (change v = _ at h; subst h; intro x; cases x) | skip)⟩, fun w => rfl⟩
      · exact ⟨⟨_, _, rfl, by decide, fun v w h => by (first | (change v = _ at h; subst h; intro x; cases x) | skip)⟩, fun w => rfl⟩
      · exact ⟨⟨_, _, rfl, by decide, fun v w h => by (first | (change v = _ at h; subst h; intro x; cases x) | skip)⟩, fun w => rfl⟩
      · exact ⟨⟨_, _, rfl, by decide, fun v w h => by (first | (change v = _ at h; subst h; intro x; cases x) | skip)⟩, fun w => rfl⟩
      · exact ⟨⟨_, _, rfl, by decide, fun v w h => by (first | (change v = _ at h; subst h; intro x; cases x) | skip)⟩, fun w => rfl⟩
      · exact ⟨⟨_, _, rfl, by decide, fun v w h => by (first | (change v = _ at h; subst h; intro x; cases x) | skip)⟩, fun w => rfl⟩
      · exact ⟨⟨_, _, rfl, by decide, fun v w h => by (first | (change v = _ at h; subst h; intro x; cases x) | skip)⟩, fun w => rfl⟩
      · exact ⟨⟨_, _, rfl, by decide, fun v w h => by (first | (change v = _ at h; subst h; intro x; cases x) | skip)⟩, fun w => rfl⟩
      · exact ⟨⟨_, _, rfl, by decide, fun v w h => by (first | (change v = _ at h; subst h; intro x; cases x) | skip)⟩, fun w => rfl⟩
      · exact ⟨⟨_, _, rfl, by decide, fun v w h => by (first | (change v = _ at h; subst h; intro x; cases x) | skip)⟩, fun w => rfl⟩
      · exact ⟨⟨_, _, rfl, by decide, fun v w h => by (first | (change v = _ at h; subst h; intro x; cases x) | skip)⟩, fun w => rfl⟩
      · exact fun g b h => by (cases h)
      · exact fun g b h => by (cases h)
    · exact fun _ _ => keeps_refl w7
    · refine ⟨?_, ?_, ?_, ?_, ?_, ?_, ?_, ?_, ?_, ?_, ?_, ?_, ?_, ?_, ?_, ?_, ?_, ?_, ?_, ?_, ?_, ?_, ?_, ?_, ?_, trivial⟩
      · intro _ a w1 vs hI ho hn hu K hK
        have e12 : a.tmps[12]? = some (.int .i64 4) := ho 12 rfl
        clear hn ho hu
        go_simp
        exact hK _ _ (keeps_refl _) hI rfl
      · intro _ a w1 vs hI ho hn hu K hK
        obtain ⟨e63, g63⟩ : a.tmps[63]? = some (vs 0) ∧ vs 0 = .int .i64 4 := hn 0 (by decide)
        rw [g63] at e63
        clear g63
        clear hn ho hu
        go_simp
        exact hK _ _ (keeps_refl _) hI rfl
      · intro _ a w1 vs hI ho hn hu K hK
        obtain ⟨e64, g64⟩ : a.tmps[64]? = some (vs 1) ∧ vs 1 = .bool true := hn 1 (by decide)
        rw [g64] at e64
        clear g64
        clear hn ho hu
        go_simp
        exact hK _ _ (keeps_refl _) hI rfl
      · intro hs; cases hs
      · intro hs; cases hs
      · intro hs; cases hs
      · intro hs; cases hs
      · intro hs; cases hs
      · intro hs; cases hs
      · intro hs; cases hs
      · intro hs; cases hs
      · intro hs; cases hs
      · intro hs; cases hs
      · intro hs; cases hs
      · intro hs; cases hs
      · intro hs; cases hs
      · intro hs; cases hs
      · intro hs; cases hs
      · intro hs; cases hs
      · intro hs; cases hs
      · intro hs; cases hs
      · intro hs; cases hs
      · intro hs; cases hs
      · intro _ a w1 vs hI ho hn hu K hK
        obtain ⟨e65, g65⟩ : a.tmps[65]? = some (vs 2) ∧ vs 2 = .bool true := hn 2 (by decide)
        rw [g65] at e65
        clear g65
        obtain ⟨e85, g85⟩ : a.tmps[85]? = some (vs 22) ∧ vs 22 = undef := hn 22 (by decide)
        rw [g85] at e85
        clear g85
        clear hn ho hu
        go_simp
        exact hK _ _ (keeps_refl _) hI rfl
      · intro _ a w1 vs hI ho hn hu K hK
        obtain ⟨e86, g86⟩ : a.tmps[86]? = some (vs 23) ∧ vs 23 = .bool true := hn 23 (by decide)
        rw [g86] at e86
        clear g86
        clear hn ho hu
        go_simp
        exact hK _ _ (keeps_refl _) hI rfl
    · intro vs wE hI hG
      have eL24 : vs 24 = .bool true := hG 24 (by decide)
      have HKE := Lib.hid hI
      clear hG hI
      simp only [setAll, Nat.zero_add, Nat.reduceAdd, List.setIfInBounds_toArray, List.set_cons_zero, List.set_cons_succ, eL24]
      clear eL24
      generalize vs 0 = y0 at *
      generalize vs 1 = y1 at *
      generalize vs 2 = y2 at *
      generalize vs 3 = y3 at *
      generalize vs 4 = y4 at *
      generalize vs 5 = y5 at *
      generalize vs 6 = y6 at *
      generalize vs 7 = y7 at *
      generalize vs 8 = y8 at *
      generalize vs 9 = y9 at *
      generalize vs 10 = y10 at *
      generalize vs 11 = y11 at *
      generalize vs 12 = y12 at *
      generalize vs 13 = y13 at *
      generalize vs 14 = y14 at *
      generalize vs 15 = y15 at *
      generalize vs 16 = y16 at *
      generalize vs 17 = y17 at *
      generalize vs 18 = y18 at *
      generalize vs 19 = y19 at *
      generalize vs 20 = y20 at *
      generalize vs 21 = y21 at *
      generalize vs 22 = y22 at *
      generalize vs 23 = y23 at *
      go_wp2_with fail
      go_ret
      exact ⟨rfl, HK7.out.trans HKE.out⟩
  · obtain ⟨ht1, ht2⟩ := HTU.out hro
    rw [← HLL.out, ← HNN.out] at ht1 ht2
    have HU1 := Lib.hid (fun wx => ssum_any (strB (Lp.take nn)) wx (by rw [strB_size, List.length_take]; have := HNN.out; omega))
    have HU2 := Lib.hid (fun wx => ssum_any (strB (L.take nn)) wx (by rw [strB_size, List.length_take]; have := HNN.out; omega))
    rw [show (strB (Lp.take nn)).data.toList = Lp.take nn from rfl, ht2] at HU1
    rw [show (strB (L.take nn)).data.toList = L.take nn from rfl] at HU2
    generalize strB (SH.sumB (L.take nn)) = U at *
    have RF := Lib.hid (str_front S nn (by have := HNN.out; omega))
    have RB := Lib.hid (str_back S nn (by have := HNN.out; omega))
    rw [HSL.out] at RF RB
    rw [← ht1] at RB
    have HLM : Hid (Lp.length = S.size) := by show _ = _; rw [HLP.out, HLL.out]
    have hnm : nn < S.size := by have := HNI.out; omega
    have hcc := HCC.out
    clear hEQ hqe ht1 ht2
    go_wp2_with (refine wpList_store_row rfl 47 (.tmp 11) (.tmp 50) rfl w6.heap.size (frA ep gen kk n b) rfl rfl 47 _ (heap_alloc_last w6 _) (by kernel_rfl) rfl (frA_one ep gen kk n b) ?_; rw [World.setRow_alloc_new])
    generalize w6.alloc (.cells (frA ep gen kk n b) 47) = w7 at *
    clear HSP HNN HLL HCC HNI
    generalize S.size = m at *
    refine wp_region_stage [63, 64, 65, 66, 67, 68, 69, 70, 71, 72, 73, 74, 75, 76, 77, 78, 79, 80, 81, 82, 83, 84, 85, 86, 6] [[], [0], [1], [2], [2], [2, 3, 4], [2, 5], [2, 6], [2], [2], [2, 8, 9], [2, 10], [2, 7, 11], [2, 12], [13], [13], [13, 14, 15], [13, 16], [13], [13], [13, 18, 19], [13, 17, 20], [2, 13, 21], [2, 22], [23]] [] [0, 0, 0, 0, 0, 0, 0, 0, 0, 0, 0, 0, 0, 0, 0, 0, 0, 0, 0, 0, 0, 0, 0, 0, 0] [] (fun i v _ => ftu0 m c nn B S U L Lp i v) (fun w w' => Keeps w w') (fun _ _ w' => Keeps w7 w') (by kernel_rfl) (by kernel_rfl) (by kernel_rfl) (by kernel_rfl) (by kernel_rfl) (by kernel_rfl) (by kernel_rfl) ?_ ?_ ?_ ?_ ?_ ?_ ?_
    · exact fun i v w w' c h => h
    · exact fun w => keeps_refl w
    · exact fun i s vs w _ h => h
    · refine ⟨?_, ?_, ?_, ?_, ?_, ?_, ?_, ?_, ?_, ?_, ?_, ?_, ?_, ?_, ?_, ?_, ?_, ?_, ?_, ?_, ?_, ?_, ?_, ?_, ?_, trivial⟩
      · exact fun g b h => by (cases h)
      · exact fun g b h => by (cases h)
      · exact fun g b h => by (cases h)
      · exact fun g b h => by (cases h; exact ⟨by decide, fun v w h => h⟩)
      · exact fun g b h => by (cases h; exact ⟨by decide, fun v w h => h⟩)
      · exact fun g b h => by (cases h; exact ⟨by decide, fun v w h => h⟩)
      · exact fun g b h => by (cases h; exact ⟨by decide, fun v w h => h⟩)
      · exact fun g b h => by (cases h; exact ⟨by decide, fun v w h => h⟩)
      · exact fun g b h => by (cases h; exact ⟨by decide, fun v w h => h⟩)
      · exact fun g b h => by (cases h; exact ⟨by decide, fun v w h => h⟩)
      · exact fun g b h => by (cases h; exact ⟨by decide, fun v w h => h⟩)
      · exact fun g b h => by (cases h; exact ⟨by decide, fun v w h => h⟩)
      · exact fun g b h => by (cases h; exact ⟨by decide, fun v w h => h⟩)
      · exact fun g b h => by (cases h; exact ⟨by decide, fun v w h => h⟩)
      · exact fun g b h => by (cases h; exact ⟨by decide, fun v w h => h⟩)
      · exact fun g b h => by (cases h; exact ⟨by decide, fun v w h => h⟩)
      · exact fun g b h => by (cases h; exact ⟨by decide, fun v w h => h⟩)
      · exact fun g b h => by (cases h; exact ⟨by decide, fun v w h => h⟩)
      · exact fun g b h => by (cases h; exact ⟨by decide, fun v w h => h⟩)
      · exact fun g b h => by (cases h; exact ⟨by decide, fun v w h => h⟩)
      · exact fun g b h => by (cases h; exact ⟨by decide, fun v w h => h⟩)
      · exact fun g b h => by (cases h; exact ⟨by decide, fun v w h => h⟩)
      · exact fun g b h => by (cases h; exact ⟨by decide, fun v w h => h⟩)
      · exact fun g b h => by (cases h)
      · exact fun g b h => by (cases h)
    · exact fun _ _ => keeps_refl w7
    · refine ⟨?_, ?_, ?_, ?_, ?_, ?_, ?_, ?_, ?_, ?_, ?_, ?_, ?_, ?_, ?_, ?_, ?_, ?_, ?_, ?_, ?_, ?_, ?_, ?_, ?_, trivial⟩
      · intro _ a w1 vs hI ho hn hu K hK
        have e12 : a.tmps[12]? = some (.int .i64 0) := ho 12 rfl
        clear hn ho hu
        go_simp
        exact hK _ _ (keeps_refl _) hI rfl
      · intro _ a w1 vs hI ho hn hu K hK
        obtain ⟨e63, g63⟩ : a.tmps[63]? = some (vs 0) ∧ vs 0 = .int .i64 0 := hn 0 (by decide)
        rw [g63] at e63
        clear g63
        clear hn ho hu
        go_simp
        exact hK _ _ (keeps_refl _) hI rfl
      · intro _ a w1 vs hI ho hn hu K hK
        obtain ⟨e64, g64⟩ : a.tmps[64]? = some (vs 1) ∧ vs 1 = .bool false := hn 1 (by decide)
        rw [g64] at e64
        clear g64
        clear hn ho hu
        go_simp
        exact hK _ _ (keeps_refl _) hI rfl
      · intro _ a w1 vs hI ho hn hu K hK
        have e10 : a.tmps[10]? = some (.slice (some ⟨B, 0, none⟩) m c) := ho 10 rfl
        clear hn ho hu
        go_simp
        exact hK _ _ (keeps_refl _) hI rfl
      · intro _ a w1 vs hI ho hn hu K hK
        have e9 : a.tmps[9]? = some (.int .i64 (nn : Int)) := ho 9 rfl
        clear hn ho hu
        go_simp
        exact hK _ _ (keeps_refl _) hI rfl
      · intro _ a w1 vs hI ho hn hu K hK
        obtain ⟨e66, g66⟩ : a.tmps[66]? = some (vs 3) ∧ vs 3 = .slice (some ⟨B, 0, none⟩) m c := hn 3 (by decide)
        rw [g66] at e66
        clear g66
        obtain ⟨e67, g67⟩ : a.tmps[67]? = some (vs 4) ∧ vs 4 = .int .i64 (nn : Int) := hn 4 (by decide)
        rw [g67] at e67
        clear g67
        clear hn ho hu
        have i1 : (0 : Int) ≤ (nn : Int) := by omega
        have i2 : (nn : Int) ≤ (c : Int) := by omega
        have i3 : (nn : Int) ≤ (m : Int) := by omega
        have i4 : nn ≤ c := by omega
        have i5 : nn ≤ m := by omega
        have i6 : (c = nn) = False := eq_false (by omega)
        go_simp
        exact hK _ _ (keeps_refl _) hI rfl
      · intro _ a w1 vs hI ho hn hu K hK
        obtain ⟨e68, g68⟩ : a.tmps[68]? = some (vs 5) ∧ vs 5 = .slice (some ⟨B, 0, none⟩) nn c := hn 5 (by decide)
        rw [g68] at e68
        clear g68
        clear hn ho hu
        have cv := conv_row (P := Try.prog) (src := 59) (dst := 9) (e := 5) Try.underlying59 (by kernel_rfl) Try.underlying9 (RowAt.front (SeqAt.keeps HRW.out hI) nn c (by rw [HLM.out]; omega))
        go_simp
        exact hK _ _ (keeps_refl _) hI rfl
      · intro _ a w1 vs hI ho hn hu K hK
        obtain ⟨e69, g69⟩ : a.tmps[69]? = some (vs 6) ∧ vs 6 = .string (strB (Lp.take nn)) := hn 6 (by decide)
        rw [g69] at e69
        clear g69
        clear hn ho hu
        go_simp
        refine Calls.mono (HU1.out _) ?_
        rintro e w' ⟨rfl, hk2⟩
        go_simp
        exact hK _ _ hk2 (Keeps.trans hI hk2) rfl
      · intro _ a w1 vs hI ho hn hu K hK
        have e7 : a.tmps[7]? = some (.string S) := ho 7 rfl
        clear hn ho hu
        go_simp
        exact hK _ _ (keeps_refl _) hI rfl
      · intro _ a w1 vs hI ho hn hu K hK
        have e9 : a.tmps[9]? = some (.int .i64 (nn : Int)) := ho 9 rfl
        clear hn ho hu
        go_simp
        exact hK _ _ (keeps_refl _) hI rfl
      · intro _ a w1 vs hI ho hn hu K hK
        obtain ⟨e71, g71⟩ : a.tmps[71]? = some (vs 8) ∧ vs 8 = .string S := hn 8 (by decide)
        rw [g71] at e71
        clear g71
        obtain ⟨e72, g72⟩ : a.tmps[72]? = some (vs 9) ∧ vs 9 = .int .i64 (nn : Int) := hn 9 (by decide)
        rw [g72] at e72
        clear g72
        clear hn ho hu
        have c1 := RF.out
        go_simp
        exact hK _ _ (keeps_refl _) hI rfl
      · intro _ a w1 vs hI ho hn hu K hK
        obtain ⟨e73, g73⟩ : a.tmps[73]? = some (vs 10) ∧ vs 10 = .string (strB (L.take nn)) := hn 10 (by decide)
        rw [g73] at e73
        clear g73
        clear hn ho hu
        go_simp
        refine Calls.mono (HU2.out _) ?_
        rintro e w' ⟨rfl, hk2⟩
        go_simp
        exact hK _ _ hk2 (Keeps.trans hI hk2) rfl
      · intro _ a w1 vs hI ho hn hu K hK
        obtain ⟨e70, g70⟩ : a.tmps[70]? = some (vs 7) ∧ vs 7 = .string U := hn 7 (by decide)
        rw [g70] at e70
        clear g70
        obtain ⟨e74, g74⟩ : a.tmps[74]? = some (vs 11) ∧ vs 11 = .string U := hn 11 (by decide)
        rw [g74] at e74
        clear g74
        clear hn ho hu
        go_simp
        exact hK _ _ (keeps_refl _) hI rfl
      · intro _ a w1 vs hI ho hn hu K hK
        obtain ⟨e75, g75⟩ : a.tmps[75]? = some (vs 12) ∧ vs 12 = .bool true := hn 12 (by decide)
        rw [g75] at e75
        clear g75
        clear hn ho hu
        go_simp
        exact hK _ _ (keeps_refl _) hI rfl
      · intro _ a w1 vs hI ho hn hu K hK
        have e10 : a.tmps[10]? = some (.slice (some ⟨B, 0, none⟩) m c) := ho 10 rfl
        clear hn ho hu
        go_simp
        exact hK _ _ (keeps_refl _) hI rfl
      · intro _ a w1 vs hI ho hn hu K hK
        have e9 : a.tmps[9]? = some (.int .i64 (nn : Int)) := ho 9 rfl
        clear hn ho hu
        go_simp
        exact hK _ _ (keeps_refl _) hI rfl
      · intro _ a w1 vs hI ho hn hu K hK
        obtain ⟨e77, g77⟩ : a.tmps[77]? = some (vs 14) ∧ vs 14 = .slice (some ⟨B, 0, none⟩) m c := hn 14 (by decide)
        rw [g77] at e77
        clear g77
        obtain ⟨e78, g78⟩ : a.tmps[78]? = some (vs 15) ∧ vs 15 = .int .i64 (nn : Int) := hn 15 (by decide)
        rw [g78] at e78
        clear g78
        clear hn ho hu
        have i1 : (0 : Int) ≤ (nn : Int) := by omega
        have i2 : (nn : Int) ≤ (c : Int) := by omega
        have i3 : (nn : Int) ≤ (m : Int) := by omega
        have i4 : nn ≤ c := by omega
        have i5 : nn ≤ m := by omega
        have i6 : (c = nn) = False := eq_false (by omega)
        go_simp
        exact hK _ _ (keeps_refl _) hI rfl
      · intro _ a w1 vs hI ho hn hu K hK
        obtain ⟨e79, g79⟩ : a.tmps[79]? = some (vs 16) ∧ vs 16 = .slice (some ⟨B, nn, none⟩) (m - nn) (c - nn) := hn 16 (by decide)
        rw [g79] at e79
        clear g79
        clear hn ho hu
        have cv := conv_row (P := Try.prog) (src := 59) (dst := 9) (e := 5) Try.underlying59 (by kernel_rfl) Try.underlying9 (RowAt.back (o := 0) (SeqAt.keeps HRW.out hI) nn (m - nn) (c - nn) (by rw [HLM.out]; omega) (by rw [HLM.out]))
        rw [Nat.zero_add] at cv
        go_simp
        exact hK _ _ (keeps_refl _) hI rfl
      · intro _ a w1 vs hI ho hn hu K hK
        have e7 : a.tmps[7]? = some (.string S) := ho 7 rfl
        clear hn ho hu
        go_simp
        exact hK _ _ (keeps_refl _) hI rfl
      · intro _ a w1 vs hI ho hn hu K hK
        have e9 : a.tmps[9]? = some (.int .i64 (nn : Int)) := ho 9 rfl
        clear hn ho hu
        go_simp
        exact hK _ _ (keeps_refl _) hI rfl
      · intro _ a w1 vs hI ho hn hu K hK
        obtain ⟨e81, g81⟩ : a.tmps[81]? = some (vs 18) ∧ vs 18 = .string S := hn 18 (by decide)
        rw [g81] at e81
        clear g81
        obtain ⟨e82, g82⟩ : a.tmps[82]? = some (vs 19) ∧ vs 19 = .int .i64 (nn : Int) := hn 19 (by decide)
        rw [g82] at e82
        clear g82
        clear hn ho hu
        have c1 := RB.out
        go_simp
        exact hK _ _ (keeps_refl _) hI rfl
      · intro _ a w1 vs hI ho hn hu K hK
        obtain ⟨e80, g80⟩ : a.tmps[80]? = some (vs 17) ∧ vs 17 = .string (strB (Lp.drop nn)) := hn 17 (by decide)
        rw [g80] at e80
        clear g80
        obtain ⟨e83, g83⟩ : a.tmps[83]? = some (vs 20) ∧ vs 20 = .string (strB (Lp.drop nn)) := hn 20 (by decide)
        rw [g83] at e83
        clear g83
        clear hn ho hu
        go_simp
        exact hK _ _ (keeps_refl _) hI rfl
      · intro _ a w1 vs hI ho hn hu K hK
        obtain ⟨e76, g76⟩ : a.tmps[76]? = some (vs 13) ∧ vs 13 = .bool true := hn 13 (by decide)
        rw [g76] at e76
        clear g76
        obtain ⟨e84, g84⟩ : a.tmps[84]? = some (vs 21) ∧ vs 21 = .bool true := hn 21 (by decide)
        rw [g84] at e84
        clear g84
        clear hn ho hu
        go_simp
        exact hK _ _ (keeps_refl _) hI rfl
      · intro _ a w1 vs hI ho hn hu K hK
        obtain ⟨e65, g65⟩ : a.tmps[65]? = some (vs 2) ∧ vs 2 = .bool false := hn 2 (by decide)
        rw [g65] at e65
        clear g65
        obtain ⟨e85, g85⟩ : a.tmps[85]? = some (vs 22) ∧ vs 22 = .bool true := hn 22 (by decide)
        rw [g85] at e85
        clear g85
        clear hn ho hu
        go_simp
        exact hK _ _ (keeps_refl _) hI rfl
      · intro _ a w1 vs hI ho hn hu K hK
        obtain ⟨e86, g86⟩ : a.tmps[86]? = some (vs 23) ∧ vs 23 = .bool true := hn 23 (by decide)
        rw [g86] at e86
        clear g86
        clear hn ho hu
        go_simp
        exact hK _ _ (keeps_refl _) hI rfl
    · intro vs wE hI hG
      have eL24 : vs 24 = .bool true := hG 24 (by decide)
      have HKE := Lib.hid hI
      clear hG hI
      simp only [setAll, Nat.zero_add, Nat.reduceAdd, List.setIfInBounds_toArray, List.set_cons_zero, List.set_cons_succ, eL24]
      clear eL24
      generalize vs 0 = y0 at *
      generalize vs 1 = y1 at *
      generalize vs 2 = y2 at *
      generalize vs 3 = y3 at *
      generalize vs 4 = y4 at *
      generalize vs 5 = y5 at *
      generalize vs 6 = y6 at *
      generalize vs 7 = y7 at *
      generalize vs 8 = y8 at *
      generalize vs 9 = y9 at *
      generalize vs 10 = y10 at *
      generalize vs 11 = y11 at *
      generalize vs 12 = y12 at *
      generalize vs 13 = y13 at *
      generalize vs 14 = y14 at *
      generalize vs 15 = y15 at *
      generalize vs 16 = y16 at *
      generalize vs 17 = y17 at *
      generalize vs 18 = y18 at *
      generalize vs 19 = y19 at *
      generalize vs 20 = y20 at *
      generalize vs 21 = y21 at *
      generalize vs 22 = y22 at *
      generalize vs 23 = y23 at *
      go_wp2_with fail
      go_ret
      exact ⟨rfl, HK7.out.trans HKE.out⟩
end Go.Proofs.Ytcapalofocmmoaa
