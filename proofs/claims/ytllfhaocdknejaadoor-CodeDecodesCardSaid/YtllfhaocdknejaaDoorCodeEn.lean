/- The walks of code.all and code.Encode. -/
import Derived.Test.YtllfhaocdknejaaDoorCodeSp
import Derived.Test.YtllfhaocdknejaaDoorStageF
namespace Go.Proofs.YtllfhaocdknejaaDoor
open Go.RowKit
attribute [local go_sem ↓] Go.wp_at_zero Go.wp_at_succ
theorem matOf_row {rows cols : Nat} {g : Nat → Nat → UInt8} : ∀ r ∈ matOf rows cols g, r.length = cols := fun r hr => by
  unfold matOf at hr
  obtain ⟨i, _, rfl⟩ := List.mem_map.1 hr
  simp
theorem matOf_len (rows cols : Nat) (g : Nat → Nat → UInt8) : (matOf rows cols g).length = rows := by unfold matOf; simp
theorem sprM_len (m l : List (List UInt8)) (s : Nat) : (sprM m l s).length = m.length := by unfold sprM; rw [matOf_len]
theorem take_snocM {m : List (List UInt8)} {k : Nat} (h : k < m.length) : (m.take (k + 1)).map strB = (m.take k).map strB ++ [strB m[k]] := by
  rw [(List.take_append_getElem h).symm, List.map_append]; rfl
theorem mat_rowQ {w : World} {p : Option Addr} {n q : Nat} {m : List (List UInt8)} (h : MatAt w.heap (.slice p n q) m) {i : Nat} (hi : i < m.length) : ∃ b off pr qr, p = some ⟨b, off, none⟩ ∧ w.cell? ⟨b, off + i, none⟩ = some (.slice pr m[i].length qr) ∧ RowAt w.heap (.slice pr m[i].length qr) m[i] := by
  obtain ⟨b, off, q', u, e, h1, h2⟩ := seq_cell h hi
  injection e with e1 _ _
  obtain ⟨pr, qr, rfl⟩ := seq_shape h2
  exact ⟨b, off, pr, qr, e1, h1, h2⟩
theorem conv_rowT {w : World} {v : Value} {r : List UInt8} (h : RowAt w.heap v r) : (convert 39 9 v).run Tryd.prog w = .ok (.string (strB r)) w := conv_row Tryd.underlying39 Tryd.underlying5 Tryd.underlying9 h
/-- A slice's room. -/
def CapOk (v : Value) : Prop := ∃ p n c, v = .slice p n c ∧ n ≤ c
/-- Texts in blocks of S, with room. -/
def GotT (S : Nat → Prop) (w : World) (v : Value) (l : List ByteArray) : Prop := SeqIn S 9 IsText w.heap v l ∧ CapOk v
theorem GotT.nil (S : Nat → Prop) (w : World) : GotT S w (.slice none 0 0) [] := ⟨SeqIn.nil _ _ _ _, _, _, _, rfl, Nat.le_refl _⟩
theorem GotT.mono {S S' : Nat → Prop} {w : World} {v : Value} {l : List ByteArray} (h : GotT S w v l) (hs : ∀ b, S b → S' b) : GotT S' w v l := ⟨SeqIn.mono h.1 hs fun _ _ x => x, h.2⟩
theorem GotT.keeps {S : Nat → Prop} {w w' : World} {v : Value} {l : List ByteArray} (h : GotT S w v l) (c : Keeps w w') : GotT S w' v l := ⟨SeqIn.chg (T := fun _ => False) h.1 (Kept.any c) (fun _ _ _ _ x => x) fun _ _ _ x => x, h.2⟩
theorem own_capok {w : World} {base : Nat} {E : TypeId} {v : Value} {n : Nat} {us : List Value} (h : w.ownsRow base E 1 v n us) : CapOk v := by
  rcases h.2 with ⟨rfl, hn⟩ | ⟨g, cap, cur, rfl, _, _, hc, _⟩
  · exact ⟨none, 0, 0, by (first | rfl | rw [hn]), Nat.le_refl _⟩
  · exact ⟨_, _, _, rfl, hc⟩
set_option maxRecDepth 100000 in
set_option maxHeartbeats 4000000 in
theorem callG_any (K N : Nat) (vl : Value) (l : List (List UInt8)) (s : Nat) (w : World) (hc : codeB K N = true) (hl : MatAt w.heap vl l) (hll : l.length = K) (h2 : ∀ r ∈ l, r.length = s) (h6 : s ≤ 1000000) :
    Calls Tryd.prog 24 #[.agg #[.int .i64 (K : Int), .int .i64 (N : Int)], vl] w fun e w' => ∃ v, e = .returned v ∧ GotT (w.heap.size ≤ ·) w' v ((sprM (matOf N K (codeAt K)) l s).map strB) ∧ Keeps w w' := by
  obtain ⟨h1, h3, h4⟩ := codeB_true.1 hc
  have HC := Lib.hid hc
  have HOF : Hid (ofM (K : Int) (N : Int) = (matOf N K (codeAt K), 0)) := by show _ = _; unfold ofM; rw [HC.out]; rfl
  have HL := Lib.hid hl
  have HLL := Lib.hid hll
  have HR2 := Lib.hid h2
  clear hc hl hll h2
  go_enter Tryd.func24, Tryd.ntmps24
  go_wp2_with fail
  refine Calls.mono (matof_any (K : Int) (N : Int) _) ?_
  rintro e w1 ⟨vm, rfl, hm, hk1⟩
  rw [HOF.out] at hm ⊢
  have HM := Lib.hid hm.at_
  have HK1 : Hid (Keeps w w1) := (kal w _).trans hk1
  have HLN : Hid ((matOf N K (codeAt K)).length = N) := matOf_len _ _ _
  have HLR : Hid (∀ r ∈ matOf N K (codeAt K), r.length = l.length) := fun r hr => by rw [HLL.out]; exact matOf_row r hr
  clear hm hk1
  generalize hMD : matOf N K (codeAt K) = m at *
  have HMD := Lib.hid hMD
  clear hMD
  go_wp2_with fail
  refine Calls.mono (cspread_any vm vl m l s _ HM.out (MatAt.keeps HL.out HK1.out) HLR.out HR2.out (by rw [HLL.out]; omega) (by rw [HLN.out]; omega) (by rw [HLL.out]; omega) h6) ?_
  rintro e w2 ⟨vs, rfl, hs, hk2⟩
  have HS := Lib.hid hs.at_
  have HK2 := Lib.hid (HK1.out.trans hk2)
  have HLS : Hid ((sprM m l s).length ≤ 12) := by show _ ≤ _; rw [sprM_len, HLN.out]; omega
  clear hs hk2
  generalize hSD : sprM m l s = S at *
  have HSD := Lib.hid hSD
  clear hSD
  obtain ⟨ps, qs, rfl⟩ := seq_shape HS.out
  have hls := HLS.out
  go_wp2_with fail
  go_loopw [7, 19] (fun v i wr => ∃ k : Nat, k ≤ S.length ∧ i = .int .i64 k ∧ Hid (OwnSeq w2.heap.size 9 IsText wr v ((S.take k).map strB)) ∧ Hid (Keeps w2 wr)) (fun _ i _ => S.length - (intOf i).toNat)
  case atStart => exact ⟨0, by omega, rfl, OwnSeq.nil _ _ _ _, keeps_refl w2⟩
  case round =>
    obtain ⟨k, hk, rfl, hR, hK⟩ := hrel
    by_cases hlt : k < S.length
    · have hlt64 : (k : Int) < (S.length : Int) := by omega
      have hk0 : (0 : Int) ≤ (k : Int) := by omega
      obtain ⟨b, off, pr, qr, rfl, d1, r1⟩ := mat_rowQ (MatAt.keeps HS.out hK.out) hlt
      obtain ⟨us, hu1, hu2, hu3⟩ := hR.out
      have hul : us.length = k := by rw [hu2]; simp; omega
      obtain ⟨pv, qv, rfl⟩ := own_slice hu1
      have HU := Lib.hid hu1
      have HL2 := Lib.hid hu2
      have HL3 := Lib.hid hul
      have H3 := Lib.hid hu3
      have HTK := Lib.hid (take_snocM (m := S) hlt)
      have hcv := conv_rowT r1
      have hsz := HK2.out.size
      have hsz2 := hK.out.size
      clear hu1 hu2 hu3 hul r1
      generalize S[k] = r at *
      go_wp2_with (at_builtin; refine wp_app1 elText rfl (.tmp 23) (.tmp 26) rfl w2.heap.size (.slice pv us.length qv) us rfl (HU.out.alloc _) _ (.string (strB r)) rfl (World.cell?_alloc_new _ _ _ _) rfl (by have := HL3.out; omega) (by simp; omega) ?_; intro v' w6 hown hchg; have HP6 := Lib.hid (OwnSeq.push (R := IsText) (R' := IsText) (l := (S.take k).map strB) HL2.out H3.out hown (fun _ _ _ x => x) rfl); have HK6 : Hid (Keeps w2 w6) := hK.out.then (chg_kept (B := w2.heap.size) (Chg.trans (Kept.any (kal wr _)) hchg) (fun q _ e => (own_block HU.out q e).1) hK.out.size) (Nat.le_refl _); clear hown hchg)
      exact ⟨⟨k + 1, by omega, by go_num, by rw [HTK.out]; exact HP6, HK6⟩, by simp [intOf]; omega⟩
    · obtain rfl : k = S.length := by omega
      go_wp2
      go_ret
      refine ⟨_, rfl, ?_, HK2.out.trans hK.out⟩
      have := hR.out.seq (by simp; omega)
      rw [List.take_length] at this
      rw [HMD.out, HSD.out]
      obtain ⟨us, hu, _⟩ := hR.out
      exact ⟨SeqIn.mono this (fun b hb => Nat.le_trans HK2.out.size hb) fun _ _ x => x, own_capok hu⟩
def cen4 (kk nn sz N0 : Nat) (s : ByteArray) (EL : List ByteArray) : Nat → Value → World → Prop
  | 4, v, w => MatIn (fun b => N0 ≤ b) w.heap v (dataC kk s.data.toList)
  | 5, v, w => GotT (fun b => N0 ≤ b) w v EL
  | 6, v, w => GotT (fun b => N0 ≤ b) w v EL
  | i, v, _ => v = ([.agg #[.int .i64 (kk : Int), .int .i64 (nn : Int)], .agg #[.int .i64 (kk : Int), .int .i64 (nn : Int)], .string s, .int .i64 (sz : Int), undef, undef, undef, .int .i64 0] : List Value).getD i undef
theorem cen4_keeps {kk nn sz N0 : Nat} {s : ByteArray} {EL : List ByteArray} (i : Nat) (v : Value) (w w' : World) (c : Keeps w w') (h : cen4 kk nn sz N0 s EL i v w) : cen4 kk nn sz N0 s EL i v w' := by
  match i, h with
  | 0, h => exact h
  | 1, h => exact h
  | 2, h => exact h
  | 3, h => exact h
  | 4, h => exact MatIn.keeps h c
  | 5, h => exact GotT.keeps h c
  | 6, h => exact GotT.keeps h c
  | 7, h => exact h
  | _ + 8, h => exact h
set_option maxRecDepth 100000 in
set_option maxHeartbeats 4000000 in
theorem cencodeG_any (k n : Int) (s : ByteArray) (w : World) (hs : s.size ≤ 9223372036854775807) :
    Calls Tryd.prog 14 #[.agg #[.int .i64 k, .int .i64 n], .string s] w fun e w' => ∃ v, e = .returned (.tuple #[v, .int .i64 (encC k n s.data.toList).2]) ∧ GotT (w.heap.size ≤ ·) w' v (encC k n s.data.toList).1 ∧ Keeps w w' := by
  have HDL : Hid (s.data.toList.length = s.size) := data_size s
  cases hb : codeB k n with
  | false =>
    have HE : Hid (encC k n s.data.toList = ([], 1)) := by show _ = _; unfold encC; rw [hb]; rfl
    have HS := Lib.hid (sizeC_bad (len := (s.size : Int)) hb)
    rw [HE.out]
    clear hb
    go_enter Tryd.func14, Tryd.ntmps14
    go_wp2_with fail
    refine Calls.mono (csize_any _ _ _ _ (by omega) (by omega)) ?_
    rintro e w1 ⟨rfl, hk1⟩
    rw [HS.out]
    go_wp2
    go_ret2
    exact ⟨_, rfl, GotT.nil _ _, (kal w _).trans hk1⟩
  | true =>
    obtain ⟨h1, h3, h4⟩ := codeB_true.1 hb
    by_cases hbig : 32768 < s.size
    · have HE : Hid (encC k n s.data.toList = ([], 40)) := by show _ = _; unfold encC; rw [hb, HDL.out, if_pos hbig]; rfl
      have HS := Lib.hid (sizeC_big (len := (s.size : Int)) hb (by omega))
      rw [HE.out]
      clear hb
      go_enter Tryd.func14, Tryd.ntmps14
      go_wp2_with fail
      refine Calls.mono (csize_any _ _ _ _ (by omega) (by omega)) ?_
      rintro e w1 ⟨rfl, hk1⟩
      rw [HS.out]
      go_wp2
      go_ret2
      exact ⟨_, rfl, GotT.nil _ _, (kal w _).trans hk1⟩
    · obtain ⟨kk, rfl⟩ := Int.eq_ofNat_of_zero_le (show 0 ≤ k by omega)
      obtain ⟨nn, rfl⟩ := Int.eq_ofNat_of_zero_le (show 0 ≤ n by omega)
      have hK : 1 ≤ kk ∧ kk ≤ 12 := by omega
      have hsm : s.size ≤ 32768 := by omega
      have HE : Hid (encC (kk : Int) (nn : Int) s.data.toList = ((sprM (matOf nn kk (codeAt kk)) (dataC kk s.data.toList) (sizeN kk s.size)).map strB, 0)) := by
        show _ = _
        unfold encC encM
        rw [hb, HDL.out, if_pos rfl, if_neg hbig, Int.toNat_natCast, Int.toNat_natCast]
      have HS := Lib.hid (sizeC_yes (K := kk) (m := s.size) hb hsm)
      have HB := Lib.hid hb
      have HDD : Hid (∀ r ∈ dataC kk s.data.toList, r.length = sizeN kk s.size) := fun r hr => by
        unfold dataC at hr
        obtain ⟨j, hj, rfl⟩ := List.mem_map.1 hr
        rw [HDL.out]
        exact cutR_length (K := kk) (by rw [whole_length hK.1, HDL.out]) (List.mem_range.1 hj)
      have HSL := Lib.hid (sizeN_le (m := s.size) hK.1)
      rw [HE.out]
      have c0 : ∀ wx, Keeps (w.alloc (.cells #[.int .i64 (kk : Int), .int .i64 (nn : Int)] 23)) wx → wx.cell? ⟨w.heap.size, 0, none⟩ = some (.int .i64 (kk : Int)) ∧ wx.cell? ⟨w.heap.size, 1, none⟩ = some (.int .i64 (nn : Int)) := fun wx hx => ⟨keeps_cell hx (World.cell?_alloc_new _ _ _ _), keeps_cell hx (World.cell?_alloc_new _ _ _ _)⟩
      have HC0 := Lib.hid c0
      clear hb c0 hbig
      go_enter Tryd.func14, Tryd.ntmps14
      go_wp2_with fail
      refine Calls.mono (csize_any _ _ _ _ (by omega) (by omega)) ?_
      rintro e wa ⟨rfl, hk1⟩
      rw [HS.out]
      have HK1 : Hid (Keeps w wa) := (kal w _).trans hk1
      obtain ⟨c0, c1⟩ := HC0.out wa hk1
      clear hk1
      go_wp2_with fail
      have D0 := Lib.hid c0
      have D1 := Lib.hid c1
      have HCD : Hid (∀ wx, Calls Tryd.prog 25 #[.agg #[.int .i64 (kk : Int), .int .i64 (nn : Int)], .string s, .int .i64 (sizeN kk s.size : Int)] wx fun e w' => ∃ v, e = .returned v ∧ MatIn (wx.heap.size ≤ ·) w'.heap v (dataC kk s.data.toList) ∧ Keeps wx w') := fun wx => cdata_any kk nn s wx hK hsm
      have HCA : Hid (∀ (wx : World) (vx : Value), MatAt wx.heap vx (dataC kk s.data.toList) → Calls Tryd.prog 24 #[.agg #[.int .i64 (kk : Int), .int .i64 (nn : Int)], vx] wx fun e w' => ∃ v, e = .returned v ∧ GotT (wx.heap.size ≤ ·) w' v ((sprM (matOf nn kk (codeAt kk)) (dataC kk s.data.toList) (sizeN kk s.size)).map strB) ∧ Keeps wx w') := fun wx vx hx => callG_any kk nn vx _ _ wx HB.out hx (dataC_length _ _) HDD.out (by have := HSL.out; omega)
      generalize hEL : (sprM (matOf nn kk (codeAt kk)) (dataC kk s.data.toList) (sizeN kk s.size)).map strB = EL at *
      have HEL := Lib.hid hEL
      generalize hsz : sizeN kk s.size = sz at *
      have HSZQ := Lib.hid hsz
      clear hsz
      clear c0 c1 hEL
      refine wp_region_stage [18, 19, 20, 21, 22, 23, 4, 5] [[], [], [], [], [1, 2, 3], [0, 4], [5], []] [] [0, 0, 0, 0, 0, 0, 0, 0] [] (cen4 kk nn sz wa.heap.size s EL) (fun w w' => Keeps w w') (fun _ _ w' => Keeps wa w') (by kernel_rfl) (by kernel_rfl) (by kernel_rfl) (by kernel_rfl) (by kernel_rfl) (by kernel_rfl) (by kernel_rfl) ?_ ?_ ?_ ?_ ?_ ?_ ?_
      · exact fun i v w w' c h => cen4_keeps i v w w' c h
      · exact fun w => keeps_refl w
      · exact fun i s vs w _ h => h
      · refine ⟨?_, ?_, ?_, ?_, ?_, ?_, ?_, ?_, trivial⟩
        · exact fun g b h => by (cases h)
        · exact fun g b h => by (cases h)
        · exact fun g b h => by (cases h)
        · exact fun g b h => by (cases h)
        · exact fun g b h => by (cases h)
        · exact fun g b h => by (cases h)
        · exact fun g b h => by (cases h)
        · exact fun g b h => by (cases h)
      · exact fun _ _ => keeps_refl wa
      · refine ⟨?_, ?_, ?_, ?_, ?_, ?_, ?_, ?_, trivial⟩
        · intro _ a w1 vs hI ho hn hu K hK
          have e2 : a.tmps[2]? = some (.pointer (some ⟨w.heap.size, 0, none⟩)) := ho 2 rfl
          clear hn ho hu
          have c0 := keeps_cell hI D0.out
          have c1 := keeps_cell hI D1.out
          go_simp
          exact hK _ _ (keeps_refl _) hI rfl
        · intro _ a w1 vs hI ho hn hu K hK
          have e2 : a.tmps[2]? = some (.pointer (some ⟨w.heap.size, 0, none⟩)) := ho 2 rfl
          clear hn ho hu
          have c0 := keeps_cell hI D0.out
          have c1 := keeps_cell hI D1.out
          go_simp
          exact hK _ _ (keeps_refl _) hI rfl
        · intro _ a w1 vs hI ho hn hu K hK
          have e1 : a.tmps[1]? = some (.string s) := ho 1 rfl
          clear hn ho hu
          go_simp
          exact hK _ _ (keeps_refl _) hI rfl
        · intro _ a w1 vs hI ho hn hu K hK
          have e6 : a.tmps[6]? = some (.int .i64 (sz : Int)) := ho 6 rfl
          clear hn ho hu
          go_simp
          exact hK _ _ (keeps_refl _) hI rfl
        · intro _ a w1 vs hI ho hn hu K hK
          obtain ⟨e19, g19⟩ : a.tmps[19]? = some (vs 1) ∧ vs 1 = .agg #[.int .i64 (kk : Int), .int .i64 (nn : Int)] := hn 1 (by decide)
          rw [g19] at e19
          clear g19
          obtain ⟨e20, g20⟩ : a.tmps[20]? = some (vs 2) ∧ vs 2 = .string s := hn 2 (by decide)
          rw [g20] at e20
          clear g20
          obtain ⟨e21, g21⟩ : a.tmps[21]? = some (vs 3) ∧ vs 3 = .int .i64 (sz : Int) := hn 3 (by decide)
          rw [g21] at e21
          clear g21
          clear hn ho hu
          go_simp
          refine Calls.mono (HCD.out _) ?_
          rintro e w' ⟨v, rfl, hm, hk⟩
          go_simp
          exact hK _ _ hk (Keeps.trans hI hk) (MatIn.mono hm fun b hb => Nat.le_trans (Kept.size hI) hb)
        · intro _ a w1 vs hI ho hn hu K hK
          obtain ⟨e18, g18⟩ : a.tmps[18]? = some (vs 0) ∧ vs 0 = .agg #[.int .i64 (kk : Int), .int .i64 (nn : Int)] := hn 0 (by decide)
          rw [g18] at e18
          clear g18
          obtain ⟨e22, g22⟩ : a.tmps[22]? = some (vs 4) ∧ MatIn (fun b => wa.heap.size ≤ b) w1.heap (vs 4) (dataC kk s.data.toList) := hn 4 (by decide)
          clear hn ho hu
          go_simp
          refine Calls.mono (HCA.out _ _ (MatIn.at_ g22)) ?_
          rintro e w' ⟨v, rfl, hm, hk⟩
          go_simp
          exact hK _ _ hk (Keeps.trans hI hk) (GotT.mono hm fun b hb => Nat.le_trans (Kept.size hI) hb)
        · intro _ a w1 vs hI ho hn hu K hK
          obtain ⟨e23, g23⟩ : a.tmps[23]? = some (vs 5) ∧ GotT (fun b => wa.heap.size ≤ b) w1 (vs 5) EL := hn 5 (by decide)
          clear hn ho hu
          go_simp
          exact hK _ _ (keeps_refl _) hI g23
        · intro _ a w1 vs hI ho hn hu K hK
          clear hn ho hu
          go_simp
          exact hK _ _ (keeps_refl _) hI rfl
      · intro vs wE hI hG
        have HE4 := Lib.hid (hG 6 (by decide))
        have HKE := Lib.hid hI
        have h5 : vs 7 = .int .i64 0 := hG 7 (by decide)
        clear hG hI
        simp only [setAll, Nat.zero_add, Nat.reduceAdd, List.setIfInBounds_toArray, List.set_cons_zero, List.set_cons_succ, h5]
        clear h5
        generalize vs 0 = y0 at *
        generalize vs 1 = y1 at *
        generalize vs 2 = y2 at *
        generalize vs 3 = y3 at *
        generalize vs 4 = y4 at *
        generalize vs 5 = y5 at *
        generalize vs 6 = y6 at *
        have HE5 : Hid (GotT (fun b => wa.heap.size ≤ b) wE y6 EL) := HE4.out
        clear HE4
        go_wp2_with fail
        go_ret2
        refine ⟨_, rfl, ?_, HK1.out.trans HKE.out⟩
        rw [HSZQ.out, HEL.out]
        exact GotT.mono HE5.out fun b hb => Nat.le_trans HK1.out.size hb
theorem cencode_any (k n : Int) (s : ByteArray) (w : World) (hs : s.size ≤ 9223372036854775807) :
    Calls Tryd.prog 14 #[.agg #[.int .i64 k, .int .i64 n], .string s] w fun e w' => ∃ v, e = .returned (.tuple #[v, .int .i64 (encC k n s.data.toList).2]) ∧ SeqIn (w.heap.size ≤ ·) 9 IsText w'.heap v (encC k n s.data.toList).1 ∧ Keeps w w' :=
  (cencodeG_any k n s w hs).mono fun _ _ ⟨v, e, h, k⟩ => ⟨v, e, h.1, k⟩
end Go.Proofs.YtllfhaocdknejaaDoor
