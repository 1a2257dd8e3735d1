/- The walk of the law PackerBytes. -/
import Derived.Test.YteandjophamipaaPAwake
namespace Go.Proofs.Yteandjophamipaa
open Go.RowKit
attribute [local go_sem ↓] Go.wp_at_zero Go.wp_at_succ
def pbytes12 (b o q ln k m qc qp : Nat) (ac ap : Option Addr) (B D : ByteArray) : Nat → Value → Prop
  | i, v => v = ([.slice (some ⟨b, o, none⟩) ln q, .int .i64 (k : Int), .pointer (some ⟨b, o + k * 4, none⟩), .pointer (some ⟨b, o + k * 4 + 1, none⟩), .string D, .slice (some ⟨b, o, none⟩) ln q, .int .i64 (k : Int), .pointer (some ⟨b, o + k * 4, none⟩), .pointer (some ⟨b, o + k * 4, none⟩), .string B, .string D, .bool false, .bool false, .slice (some ⟨b, o, none⟩) ln q, .int .i64 (k : Int), .pointer (some ⟨b, o + k * 4, none⟩), .pointer (some ⟨b, o + k * 4 + 2, none⟩), .slice ac m qc, .int .i64 (m : Int), .bool false, .bool false, .bool false, .slice (some ⟨b, o, none⟩) ln q, .int .i64 (k : Int), .pointer (some ⟨b, o + k * 4, none⟩), .pointer (some ⟨b, o + k * 4 + 3, none⟩), .slice ap m qp, .int .i64 (m : Int), .slice (some ⟨b, o, none⟩) ln q, .int .i64 (k : Int), .pointer (some ⟨b, o + k * 4, none⟩), .pointer (some ⟨b, o + k * 4 + 2, none⟩), .slice ac m qc, .int .i64 (m : Int), .bool false, .bool false] : List Value).getD i undef
/-- How many chunks. -/
def cntG (gs : List (List ByteArray)) : Nat := (gs.flatten).length
theorem flat_take {gs : List (List ByteArray)} {k : Nat} (h : k < gs.length) : cntG (gs.take (k + 1)) = cntG (gs.take k) + (grp gs k).length := by
  unfold cntG
  rw [grp_get h, ← List.take_append_getElem h, List.flatten_append]; simp
theorem flat_mono {gs : List (List ByteArray)} (k : Nat) : cntG (gs.take k) ≤ cntG gs := by
  unfold cntG
  conv => rhs; rw [← List.take_append_drop k gs]
  rw [List.flatten_append, List.length_append]; omega
set_option maxRecDepth 100000 in
set_option maxHeartbeats 4000000 in
theorem pkbytes_any (v : Value) (l : List ByteArray) (w : World) (h : TextsAt w.heap v l) : Calls Try.prog 12 #[v] w fun e w' => e = .returned (.bool true) ∧ Keeps w w' := by
  obtain ⟨p, q, rfl⟩ := seq_shape h
  have H := Lib.hid h
  clear h
  cases hlb : longB l with
  | true =>
    have HL := Lib.hid hlb
    clear hlb
    go_enter Try.func12, Try.ntmps12
    go_wp2_with fail
    refine Calls.mono (plong16_any _ l _ H.out) ?_
    rintro e w' ⟨rfl, rfl⟩
    rw [HL.out]
    go_wp2_with fail
    refine Calls.mono (pawake_any _) ?_
    rintro e w1 ⟨rfl, hk⟩
    go_wp2_with fail
    go_ret
    exact ⟨rfl, hk⟩
  | false =>
  have HL := Lib.hid hlb
  obtain ⟨hs, htl⟩ := longB_no hlb
  have hlen : l.length ≤ 4000 := by omega
  have htot : total l ≤ 80000 := by omega
  clear hlb hs htl
  go_enter Try.func12, Try.ntmps12
  go_wp2_with fail
  refine Calls.mono (plong16_any _ l _ H.out) ?_
  rintro e w' ⟨rfl, rfl⟩
  rw [HL.out]
  go_wp2_with fail
  refine Calls.mono (pawake_any _) ?_
  rintro e w1 ⟨rfl, hk⟩
  have HK1 := Lib.hid hk
  have H1 := Lib.hid (SeqAt.keeps H.out hk)
  clear hk
  cases hb : badG l with
  | true =>
    have HBD := Lib.hid hb
    clear hb
    go_wp2_with fail
    refine Calls.mono (give_no (gather_any _ l _ H1.out (by omega) (by omega)) HBD.out) ?_
    rintro e w2 ⟨rfl, hk⟩
    have HK2 := Lib.hid (HK1.out.trans hk)
    clear hk
    go_wp2_with fail
    refine Calls.mono (pbytes_any _ [] _ (RecAt.nil _ _ _) (by decide)) ?_
    rintro e w3 ⟨rfl, hk⟩
    have HK3 := Lib.hid (HK2.out.trans hk)
    clear hk
    go_wp2_with fail
    go_ret
    exact ⟨rfl, HK3.out⟩
  | false =>
  have HBD := Lib.hid hb
  clear hb
  go_wp2_with fail
  refine Calls.mono (give_yes (gather_any _ l _ H1.out (by omega) (by omega)) HBD.out rfl) ?_
  rintro e w2 ⟨v2, rfl, hr, hk⟩
  have HK2 := Lib.hid (HK1.out.trans hk)
  have HR := Lib.hid hr.at_
  obtain ⟨p2, q2, rfl⟩ := rec_shape hr.at_
  have HGD := Lib.hid (gath_good HBD.out)
  have HGL : Hid ((gath l).length ≤ cntG (gath l) ∧ cntG (gath l) ≤ l.length) := gath_len l HBD.out
  have hgsl : (gath l).length ≤ 4000 := by have := HGL.out; omega
  have HBB : Hid (bytesG (gath l) ≤ 200000) := by
    have := bytesG_le l HBD.out
    show _ ≤ _; omega
  have HPB : Hid (∀ wx, Keeps w2 wx → Calls Try.prog 30 #[.slice p2 (gath l).length q2] wx fun e w' => e = .returned (.int .i64 (bytesG (gath l) : Int)) ∧ Keeps wx w') := fun wx hx =>
    pbytes_any _ (gath l) wx (RecAt.keeps (hr.at_.imp (fun _ _ _ e => e) fun _ _ _ k => k.t) hx) (by have := HBB.out; omega)
  clear hr hk
  generalize gath l = gs at *
  go_wp2_with fail
  go_loopw [5, 6, 7] (fun n c i wr => ∃ k : Nat, k ≤ gs.length ∧ i = .int .i64 k ∧ n = .int .i64 (bytesG (gs.take k) : Int) ∧ c = .int .i64 (cntG (gs.take k) : Int) ∧ Hid (Keeps w2 wr)) (fun _ _ i _ => gs.length - (intOf i).toNat)
  case atStart => exact ⟨0, by omega, rfl, rfl, rfl, keeps_refl w2⟩
  case round =>
    obtain ⟨k, hk, rfl, rfl, rfl, hK⟩ := hrel
    by_cases hlt : k < gs.length
    · have hlt64 : (k : Int) < (gs.length : Int) := by omega
      have hk0 : (0 : Int) ≤ (k : Int) := by omega
      obtain ⟨b, o, q, us, e5, hus, hc, c, pp, rfl, ht, hp⟩ := rec_cell (RecAt.keeps HR.out hK.out) hlt
      injection e5 with e6 e7 e8
      subst e6 e8
      obtain ⟨ac, qc, rfl⟩ := seq_shape (SeqIn.at_ ht)
      obtain ⟨ap, qp, rfl⟩ := rec_shape hp.at_
      rw [← grp_get hlt] at hc
      have hgm := HGD.out _ (grp_mem hlt)
      have K0 := Lib.hid (hc 0 (by simp))
      have K1 := Lib.hid (hc 1 (by simp))
      have K2 := Lib.hid (hc 2 (by simp))
      have K3 := Lib.hid (hc 3 (by simp))
      simp only [List.getElem_cons_zero, List.getElem_cons_succ, Nat.add_zero, List.length_map, places_length] at K0 K1 K2 K3
      have d0 := K0.out
      have d2 := K2.out
      have hbs : (strB (blobP (grp gs k))).size = (blobP (grp gs k)).length := strB_size _
      have hsm := size_blob' hgm
      have hst := bytesG_take hlt
      have hmo := bytesG_mono (gs := gs) (k + 1)
      have hft := flat_take hlt
      have hfm := flat_mono (gs := gs) (k + 1)
      have hbd := HBB.out
      have hgl := HGL.out.2
      have HSU : Hid (∀ wx, Calls Try.prog 34 #[.string (strB (blobP (grp gs k)))] wx fun e w' => e = .returned (.string (dgP (grp gs k))) ∧ Keeps wx w') := fun wx => dsum_any _ wx (by omega)
      have hgn := mayP_ne hgm
      have hpos : 0 < (grp gs k).length := List.length_pos_iff.2 hgn
      clear hc hus ht hp hgm hgn e7
      generalize grp gs k = g at *
      generalize strB (blobP g) = B at *
      generalize dgP g = D at *
      generalize (blobP g).length = x at *
      have HM0 : Hid (((g.length : Int) == 0) = false) := by show _ = _; rw [beq_eq_false_iff_ne]; omega
      have HM1 : Hid ((g.length == 0) = false) := by show _ = _; rw [beq_eq_false_iff_ne]; omega
      have HX : Hid (bytesG (gs.take (k + 1)) = bytesG (gs.take k) + B.size) := by show _ = _; omega
      have HY := Lib.hid hft
      have hle : bytesG (gs.take k) + B.size ≤ 200000 := by omega
      have hle2 : cntG (gs.take k) + g.length ≤ 4000 := by omega
      clear hst hmo hbd hbs hft hfm hgl hsm
      generalize bytesG (gs.take k) = t at *
      generalize cntG (gs.take k) = t2 at *
      go_wp2_with fail
      refine wp_region_stage [52, 53, 54, 55, 56, 57, 58, 59, 60, 61, 62, 63, 64, 65, 66, 67, 68, 69, 70, 71, 72, 73, 74, 75, 76, 77, 78, 79, 80, 81, 82, 83, 84, 85, 86, 87] [[], [], [0, 1], [2], [3], [], [], [5, 6], [7], [8], [9], [4, 10], [11], [12], [12], [12, 13, 14], [12, 15], [12, 16], [12, 17], [12, 18], [12, 19], [20], [21], [21], [21, 22, 23], [21, 24], [21, 25], [21, 26], [21], [21], [21, 28, 29], [21, 30], [21, 31], [21, 32], [21, 27, 33], [21, 34]] [] [0, 0, 0, 0, 0, 0, 0, 0, 0, 0, 0, 0, 0, 0, 0, 0, 0, 0, 0, 0, 0, 0, 0, 0, 0, 0, 0, 0, 0, 0, 0, 0, 0, 0, 0, 0] [] (fun i v _ => pbytes12 b o q2 gs.length k g.length qc qp ac ap B D i v) (fun w w' => Keeps w w') (fun _ _ w' => Keeps wr w') (by kernel_rfl) (by kernel_rfl) (by kernel_rfl) (by kernel_rfl) (by kernel_rfl) (by kernel_rfl) (by kernel_rfl) ?_ ?_ ?_ ?_ ?_ ?_ ?_
      · exact fun i v w w' c h => h
      · exact fun w => keeps_refl w
      · exact fun i s vs w _ h => h
      · refine ⟨?_, ?_, ?_, ?_, ?_, ?_, ?_, ?_, ?_, ?_, ?_, ?_, ?_, ?_, ?_, ?_, ?_, ?_, ?_, ?_, ?_, ?_, ?_, ?_, ?_, ?_, ?_, ?_, ?_, ?_, ?_, ?_, ?_, ?_, ?_, ?_, trivial⟩
        · exact fun g b h => by (cases h)
        · exact fun g b h => by (cases h)
        · exact fun g b h => by (cases h)
        · exact fun g b h => by (cases h)
        · exact fun g b h => by (cases h)
        · exact fun g b h => by (cases h)
        · exact fun g b h => by (cases h)
        · exact fun g b h => by (cases h)
        · exact fun g b h => by (cases h)
        · exact fun g b h => by (cases h)
        · exact fun g b h => by (cases h)
        · exact fun g b h => by (cases h)
        · exact fun g b h => by (cases h)
        · exact fun g b h => by (cases h; exact ⟨by decide, fun v w h => h⟩)
        · exact fun g b h => by (cases h; exact ⟨by decide, fun v w h => h⟩)
        · exact fun g b h => by (cases h; exact ⟨by decide, fun v w h => h⟩)
        · exact fun g b h => by (cases h; exact ⟨by decide, fun v w h => h⟩)
        · exact fun g b h => by (cases h; exact ⟨by decide, fun v w h => h⟩)
        · exact fun g b h => by (cases h; exact ⟨by decide, fun v w h => h⟩)
        · exact fun g b h => by (cases h; exact ⟨by decide, fun v w h => h⟩)
        · exact fun g b h => by (cases h)
        · exact fun g b h => by (cases h)
        · exact fun g b h => by (cases h; exact ⟨by decide, fun v w h => h⟩)
        · exact fun g b h => by (cases h; exact ⟨by decide, fun v w h => h⟩)
        · exact fun g b h => by (cases h; exact ⟨by decide, fun v w h => h⟩)
        · exact fun g b h => by (cases h; exact ⟨by decide, fun v w h => h⟩)
        · exact fun g b h => by (cases h; exact ⟨by decide, fun v w h => h⟩)
        · exact fun g b h => by (cases h; exact ⟨by decide, fun v w h => h⟩)
        · exact fun g b h => by (cases h; exact ⟨by decide, fun v w h => h⟩)
        · exact fun g b h => by (cases h; exact ⟨by decide, fun v w h => h⟩)
        · exact fun g b h => by (cases h; exact ⟨by decide, fun v w h => h⟩)
        · exact fun g b h => by (cases h; exact ⟨by decide, fun v w h => h⟩)
        · exact fun g b h => by (cases h; exact ⟨by decide, fun v w h => h⟩)
        · exact fun g b h => by (cases h; exact ⟨by decide, fun v w h => h⟩)
        · exact fun g b h => by (cases h; exact ⟨by decide, fun v w h => h⟩)
        · exact fun g b h => by (cases h)
      · exact fun _ _ => keeps_refl wr
      · refine ⟨?_, ?_, ?_, ?_, ?_, ?_, ?_, ?_, ?_, ?_, ?_, ?_, ?_, ?_, ?_, ?_, ?_, ?_, ?_, ?_, ?_, ?_, ?_, ?_, ?_, ?_, ?_, ?_, ?_, ?_, ?_, ?_, ?_, ?_, ?_, ?_, trivial⟩
        · intro _ a w1 vs hI ho hn hu K hK
          have e3 : a.tmps[3]? = some (.slice (some ⟨b, o, none⟩) gs.length q2) := ho 3 rfl
          clear hn ho hu
          go_simp
          exact hK _ _ (keeps_refl _) hI rfl
        · intro _ a w1 vs hI ho hn hu K hK
          have e7 : a.tmps[7]? = some (.int .i64 (k : Int)) := ho 7 rfl
          clear hn ho hu
          go_simp
          exact hK _ _ (keeps_refl _) hI rfl
        · intro _ a w1 vs hI ho hn hu K hK
          obtain ⟨e52, g52⟩ : a.tmps[52]? = some (vs 0) ∧ vs 0 = .slice (some ⟨b, o, none⟩) gs.length q2 := hn 0 (by decide)
          rw [g52] at e52
          clear g52
          obtain ⟨e53, g53⟩ : a.tmps[53]? = some (vs 1) ∧ vs 1 = .int .i64 (k : Int) := hn 1 (by decide)
          rw [g53] at e53
          clear g53
          clear hn ho hu
          go_simp
          exact hK _ _ (keeps_refl _) hI rfl
        · intro _ a w1 vs hI ho hn hu K hK
          obtain ⟨e54, g54⟩ : a.tmps[54]? = some (vs 2) ∧ vs 2 = .pointer (some ⟨b, o + k * 4, none⟩) := hn 2 (by decide)
          rw [g54] at e54
          clear g54
          clear hn ho hu
          go_simp
          exact hK _ _ (keeps_refl _) hI rfl
        · intro _ a w1 vs hI ho hn hu K hK
          obtain ⟨e55, g55⟩ : a.tmps[55]? = some (vs 3) ∧ vs 3 = .pointer (some ⟨b, o + k * 4 + 1, none⟩) := hn 3 (by decide)
          rw [g55] at e55
          clear g55
          clear hn ho hu
          have c0 := keeps_cell hI K1.out
          go_simp
          exact hK _ _ (keeps_refl _) hI rfl
        · intro _ a w1 vs hI ho hn hu K hK
          have e3 : a.tmps[3]? = some (.slice (some ⟨b, o, none⟩) gs.length q2) := ho 3 rfl
          clear hn ho hu
          go_simp
          exact hK _ _ (keeps_refl _) hI rfl
        · intro _ a w1 vs hI ho hn hu K hK
          have e7 : a.tmps[7]? = some (.int .i64 (k : Int)) := ho 7 rfl
          clear hn ho hu
          go_simp
          exact hK _ _ (keeps_refl _) hI rfl
        · intro _ a w1 vs hI ho hn hu K hK
          obtain ⟨e57, g57⟩ : a.tmps[57]? = some (vs 5) ∧ vs 5 = .slice (some ⟨b, o, none⟩) gs.length q2 := hn 5 (by decide)
          rw [g57] at e57
          clear g57
          obtain ⟨e58, g58⟩ : a.tmps[58]? = some (vs 6) ∧ vs 6 = .int .i64 (k : Int) := hn 6 (by decide)
          rw [g58] at e58
          clear g58
          clear hn ho hu
          go_simp
          exact hK _ _ (keeps_refl _) hI rfl
        · intro _ a w1 vs hI ho hn hu K hK
          obtain ⟨e59, g59⟩ : a.tmps[59]? = some (vs 7) ∧ vs 7 = .pointer (some ⟨b, o + k * 4, none⟩) := hn 7 (by decide)
          rw [g59] at e59
          clear g59
          clear hn ho hu
          go_simp
          exact hK _ _ (keeps_refl _) hI rfl
        · intro _ a w1 vs hI ho hn hu K hK
          obtain ⟨e60, g60⟩ : a.tmps[60]? = some (vs 8) ∧ vs 8 = .pointer (some ⟨b, o + k * 4, none⟩) := hn 8 (by decide)
          rw [g60] at e60
          clear g60
          clear hn ho hu
          have c0 := keeps_cell hI K0.out
          go_simp
          exact hK _ _ (keeps_refl _) hI rfl
        · intro _ a w1 vs hI ho hn hu K hK
          obtain ⟨e61, g61⟩ : a.tmps[61]? = some (vs 9) ∧ vs 9 = .string B := hn 9 (by decide)
          rw [g61] at e61
          clear g61
          clear hn ho hu
          go_simp
          refine Calls.mono (HSU.out _) ?_
          rintro e w' ⟨rfl, hk2⟩
          go_simp
          exact hK _ _ hk2 (Keeps.trans hI hk2) rfl
        · intro _ a w1 vs hI ho hn hu K hK
          obtain ⟨e56, g56⟩ : a.tmps[56]? = some (vs 4) ∧ vs 4 = .string D := hn 4 (by decide)
          rw [g56] at e56
          clear g56
          obtain ⟨e62, g62⟩ : a.tmps[62]? = some (vs 10) ∧ vs 10 = .string D := hn 10 (by decide)
          rw [g62] at e62
          clear g62
          clear hn ho hu
          go_simp
          exact hK _ _ (keeps_refl _) hI rfl
        · intro _ a w1 vs hI ho hn hu K hK
          obtain ⟨e63, g63⟩ : a.tmps[63]? = some (vs 11) ∧ vs 11 = .bool false := hn 11 (by decide)
          rw [g63] at e63
          clear g63
          clear hn ho hu
          go_simp
          exact hK _ _ (keeps_refl _) hI rfl
        · intro _ a w1 vs hI ho hn hu K hK
          have e3 : a.tmps[3]? = some (.slice (some ⟨b, o, none⟩) gs.length q2) := ho 3 rfl
          clear hn ho hu
          go_simp
          exact hK _ _ (keeps_refl _) hI rfl
        · intro _ a w1 vs hI ho hn hu K hK
          have e7 : a.tmps[7]? = some (.int .i64 (k : Int)) := ho 7 rfl
          clear hn ho hu
          go_simp
          exact hK _ _ (keeps_refl _) hI rfl
        · intro _ a w1 vs hI ho hn hu K hK
          obtain ⟨e65, g65⟩ : a.tmps[65]? = some (vs 13) ∧ vs 13 = .slice (some ⟨b, o, none⟩) gs.length q2 := hn 13 (by decide)
          rw [g65] at e65
          clear g65
          obtain ⟨e66, g66⟩ : a.tmps[66]? = some (vs 14) ∧ vs 14 = .int .i64 (k : Int) := hn 14 (by decide)
          rw [g66] at e66
          clear g66
          clear hn ho hu
          go_simp
          exact hK _ _ (keeps_refl _) hI rfl
        · intro _ a w1 vs hI ho hn hu K hK
          obtain ⟨e67, g67⟩ : a.tmps[67]? = some (vs 15) ∧ vs 15 = .pointer (some ⟨b, o + k * 4, none⟩) := hn 15 (by decide)
          rw [g67] at e67
          clear g67
          clear hn ho hu
          go_simp
          exact hK _ _ (keeps_refl _) hI rfl
        · intro _ a w1 vs hI ho hn hu K hK
          obtain ⟨e68, g68⟩ : a.tmps[68]? = some (vs 16) ∧ vs 16 = .pointer (some ⟨b, o + k * 4 + 2, none⟩) := hn 16 (by decide)
          rw [g68] at e68
          clear g68
          clear hn ho hu
          have c0 := keeps_cell hI K2.out
          go_simp
          exact hK _ _ (keeps_refl _) hI rfl
        · intro _ a w1 vs hI ho hn hu K hK
          obtain ⟨e69, g69⟩ : a.tmps[69]? = some (vs 17) ∧ vs 17 = .slice ac g.length qc := hn 17 (by decide)
          rw [g69] at e69
          clear g69
          clear hn ho hu
          go_simp
          exact hK _ _ (keeps_refl _) hI rfl
        · intro _ a w1 vs hI ho hn hu K hK
          obtain ⟨e70, g70⟩ : a.tmps[70]? = some (vs 18) ∧ vs 18 = .int .i64 (g.length : Int) := hn 18 (by decide)
          rw [g70] at e70
          clear g70
          clear hn ho hu
          have z1 := HM0.out
          have z2 := HM1.out
          go_simp
          exact hK _ _ (keeps_refl _) hI rfl
        · intro _ a w1 vs hI ho hn hu K hK
          obtain ⟨e64, g64⟩ : a.tmps[64]? = some (vs 12) ∧ vs 12 = .bool false := hn 12 (by decide)
          rw [g64] at e64
          clear g64
          obtain ⟨e71, g71⟩ : a.tmps[71]? = some (vs 19) ∧ vs 19 = .bool false := hn 19 (by decide)
          rw [g71] at e71
          clear g71
          clear hn ho hu
          go_simp
          exact hK _ _ (keeps_refl _) hI rfl
        · intro _ a w1 vs hI ho hn hu K hK
          obtain ⟨e72, g72⟩ : a.tmps[72]? = some (vs 20) ∧ vs 20 = .bool false := hn 20 (by decide)
          rw [g72] at e72
          clear g72
          clear hn ho hu
          go_simp
          exact hK _ _ (keeps_refl _) hI rfl
        · intro _ a w1 vs hI ho hn hu K hK
          have e3 : a.tmps[3]? = some (.slice (some ⟨b, o, none⟩) gs.length q2) := ho 3 rfl
          clear hn ho hu
          go_simp
          exact hK _ _ (keeps_refl _) hI rfl
        · intro _ a w1 vs hI ho hn hu K hK
          have e7 : a.tmps[7]? = some (.int .i64 (k : Int)) := ho 7 rfl
          clear hn ho hu
          go_simp
          exact hK _ _ (keeps_refl _) hI rfl
        · intro _ a w1 vs hI ho hn hu K hK
          obtain ⟨e74, g74⟩ : a.tmps[74]? = some (vs 22) ∧ vs 22 = .slice (some ⟨b, o, none⟩) gs.length q2 := hn 22 (by decide)
          rw [g74] at e74
          clear g74
          obtain ⟨e75, g75⟩ : a.tmps[75]? = some (vs 23) ∧ vs 23 = .int .i64 (k : Int) := hn 23 (by decide)
          rw [g75] at e75
          clear g75
          clear hn ho hu
          go_simp
          exact hK _ _ (keeps_refl _) hI rfl
        · intro _ a w1 vs hI ho hn hu K hK
          obtain ⟨e76, g76⟩ : a.tmps[76]? = some (vs 24) ∧ vs 24 = .pointer (some ⟨b, o + k * 4, none⟩) := hn 24 (by decide)
          rw [g76] at e76
          clear g76
          clear hn ho hu
          go_simp
          exact hK _ _ (keeps_refl _) hI rfl
        · intro _ a w1 vs hI ho hn hu K hK
          obtain ⟨e77, g77⟩ : a.tmps[77]? = some (vs 25) ∧ vs 25 = .pointer (some ⟨b, o + k * 4 + 3, none⟩) := hn 25 (by decide)
          rw [g77] at e77
          clear g77
          clear hn ho hu
          have c0 := keeps_cell hI K3.out
          go_simp
          exact hK _ _ (keeps_refl _) hI rfl
        · intro _ a w1 vs hI ho hn hu K hK
          obtain ⟨e78, g78⟩ : a.tmps[78]? = some (vs 26) ∧ vs 26 = .slice ap g.length qp := hn 26 (by decide)
          rw [g78] at e78
          clear g78
          clear hn ho hu
          go_simp
          exact hK _ _ (keeps_refl _) hI rfl
        · intro _ a w1 vs hI ho hn hu K hK
          have e3 : a.tmps[3]? = some (.slice (some ⟨b, o, none⟩) gs.length q2) := ho 3 rfl
          clear hn ho hu
          go_simp
          exact hK _ _ (keeps_refl _) hI rfl
        · intro _ a w1 vs hI ho hn hu K hK
          have e7 : a.tmps[7]? = some (.int .i64 (k : Int)) := ho 7 rfl
          clear hn ho hu
          go_simp
          exact hK _ _ (keeps_refl _) hI rfl
        · intro _ a w1 vs hI ho hn hu K hK
          obtain ⟨e80, g80⟩ : a.tmps[80]? = some (vs 28) ∧ vs 28 = .slice (some ⟨b, o, none⟩) gs.length q2 := hn 28 (by decide)
          rw [g80] at e80
          clear g80
          obtain ⟨e81, g81⟩ : a.tmps[81]? = some (vs 29) ∧ vs 29 = .int .i64 (k : Int) := hn 29 (by decide)
          rw [g81] at e81
          clear g81
          clear hn ho hu
          go_simp
          exact hK _ _ (keeps_refl _) hI rfl
        · intro _ a w1 vs hI ho hn hu K hK
          obtain ⟨e82, g82⟩ : a.tmps[82]? = some (vs 30) ∧ vs 30 = .pointer (some ⟨b, o + k * 4, none⟩) := hn 30 (by decide)
          rw [g82] at e82
          clear g82
          clear hn ho hu
          go_simp
          exact hK _ _ (keeps_refl _) hI rfl
        · intro _ a w1 vs hI ho hn hu K hK
          obtain ⟨e83, g83⟩ : a.tmps[83]? = some (vs 31) ∧ vs 31 = .pointer (some ⟨b, o + k * 4 + 2, none⟩) := hn 31 (by decide)
          rw [g83] at e83
          clear g83
          clear hn ho hu
          have c0 := keeps_cell hI K2.out
          go_simp
          exact hK _ _ (keeps_refl _) hI rfl
        · intro _ a w1 vs hI ho hn hu K hK
          obtain ⟨e84, g84⟩ : a.tmps[84]? = some (vs 32) ∧ vs 32 = .slice ac g.length qc := hn 32 (by decide)
          rw [g84] at e84
          clear g84
          clear hn ho hu
          go_simp
          exact hK _ _ (keeps_refl _) hI rfl
        · intro _ a w1 vs hI ho hn hu K hK
          obtain ⟨e79, g79⟩ : a.tmps[79]? = some (vs 27) ∧ vs 27 = .int .i64 (g.length : Int) := hn 27 (by decide)
          rw [g79] at e79
          clear g79
          obtain ⟨e85, g85⟩ : a.tmps[85]? = some (vs 33) ∧ vs 33 = .int .i64 (g.length : Int) := hn 33 (by decide)
          rw [g85] at e85
          clear g85
          clear hn ho hu
          go_simp
          exact hK _ _ (keeps_refl _) hI rfl
        · intro _ a w1 vs hI ho hn hu K hK
          obtain ⟨e73, g73⟩ : a.tmps[73]? = some (vs 21) ∧ vs 21 = .bool false := hn 21 (by decide)
          rw [g73] at e73
          clear g73
          obtain ⟨e86, g86⟩ : a.tmps[86]? = some (vs 34) ∧ vs 34 = .bool false := hn 34 (by decide)
          rw [g86] at e86
          clear g86
          clear hn ho hu
          go_simp
          exact hK _ _ (keeps_refl _) hI rfl
      · intro vs wE hI hG
        have eL35 : vs 35 = .bool false := hG 35 (by decide)
        have HKE := Lib.hid hI
        clear hG hI
        simp only [setAll, Nat.zero_add, Nat.reduceAdd, List.setIfInBounds_toArray, List.set_cons_zero, List.set_cons_succ, eL35]
        clear eL35
        generalize vs 0 = y0 at *
        generalize vs 1 = y1 at *
        generalize vs 2 = y2 at *
        generalize vs 3 = y3 at *
        generalize vs 4 = y4 at *
        generalize vs 5 = y5 at *
        generalize vs 6 = y6 at *
        generalize vs 7 = y7 at *
        generalize vs 8 = y8 at *
        generalize vs 9 = y9 at *
        generalize vs 10 = y10 at *
        generalize vs 11 = y11 at *
        generalize vs 12 = y12 at *
        generalize vs 13 = y13 at *
        generalize vs 14 = y14 at *
        generalize vs 15 = y15 at *
        generalize vs 16 = y16 at *
        generalize vs 17 = y17 at *
        generalize vs 18 = y18 at *
        generalize vs 19 = y19 at *
        generalize vs 20 = y20 at *
        generalize vs 21 = y21 at *
        generalize vs 22 = y22 at *
        generalize vs 23 = y23 at *
        generalize vs 24 = y24 at *
        generalize vs 25 = y25 at *
        generalize vs 26 = y26 at *
        generalize vs 27 = y27 at *
        generalize vs 28 = y28 at *
        generalize vs 29 = y29 at *
        generalize vs 30 = y30 at *
        generalize vs 31 = y31 at *
        generalize vs 32 = y32 at *
        generalize vs 33 = y33 at *
        generalize vs 34 = y34 at *
        go_wp2_with fail
        exact ⟨⟨k + 1, by omega, by go_num, by rw [HX.out]; go_num, by rw [HY.out]; go_num, hK.out.trans HKE.out⟩, by simp [intOf]; omega⟩
    · obtain rfl : k = gs.length := by omega
      have HTL : Hid (gs.take gs.length = gs) := List.take_length
      have hgl := HGL.out
      have e1 : decide ((gs.length : Int) ≤ (cntG gs : Int)) = true := decide_eq_true (by omega)
      have e2 : decide ((cntG gs : Int) ≤ (l.length : Int)) = true := decide_eq_true (by omega)
      have e3 : decide (gs.length ≤ cntG gs) = true := decide_eq_true (by omega)
      have e4 : decide (cntG gs ≤ l.length) = true := decide_eq_true (by omega)
      rw [HTL.out]
      go_wp2_with fail
      refine Calls.mono (HPB.out _ hK.out) ?_
      rintro e w4 ⟨rfl, hk4⟩
      have HK4 := Lib.hid ((HK2.out.trans hK.out).trans hk4)
      clear hk4
      go_wp2_with fail
      refine Calls.mono (pbytes_any _ [] _ (RecAt.nil _ _ _) (by decide)) ?_
      rintro e w5 ⟨rfl, hk⟩
      have HK5 := Lib.hid (HK4.out.trans hk)
      clear hk
      go_wp2_with fail
      go_ret
      exact ⟨rfl, HK5.out⟩
end Go.Proofs.Yteandjophamipaa
