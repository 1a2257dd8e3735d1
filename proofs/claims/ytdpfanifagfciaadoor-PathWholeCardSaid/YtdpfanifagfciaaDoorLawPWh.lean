/- The walk of the law PathWhole. -/
import Derived.Test.YtdpfanifagfciaaDoorLawPLess
namespace Go.Proofs.YtdpfanifagfciaaDoor
open Go.RowKit
attribute [local go_sem ↓] Go.wp_at_zero Go.wp_at_succ
theorem split_piece : ∀ (p : List UInt8) (s : List UInt8), s ∈ splitP p → s.length ≤ p.length
  | [], s, h => by simp [splitP] at h; subst h; simp
  | c :: r, s, h => by
    by_cases hc : c = 47
    · subst hc
      rw [splitP_slash] at h
      rcases List.mem_cons.1 h with h | h
      · subst h; simp
      · have := split_piece r s h; simp; omega
    · obtain ⟨x, t, hs, e⟩ := splitP_cons hc r
      rw [e] at h
      rcases List.mem_cons.1 h with h | h
      · subst h
        have := split_piece r x (by rw [hs]; exact List.mem_cons_self ..)
        simp; omega
      · have := split_piece r s (by rw [hs]; exact List.mem_cons_of_mem _ h)
        simp; omega
theorem stepsT_size {p x : ByteArray} (h : x ∈ stepsT p) : x.size ≤ p.size := by
  unfold stepsT at h
  split at h
  · cases h
  · obtain ⟨s, hs, rfl⟩ := List.mem_map.1 h
    have := split_piece _ _ hs
    rw [data_size] at this
    rw [strB_size]; exact this
theorem joinT_size {S : List ByteArray} {m : Nat} (h : ∀ j, j < S.length → (tAt S j).size ≤ m) : ∀ k, k ≤ S.length → (joinT S k).size ≤ k * (m + 1)
  | 0, _ => Nat.zero_le _
  | k + 1, hk => by
    have ih := joinT_size h k (by omega)
    have h1 := h k (by omega)
    rw [joinT_succ (by omega)]
    split
    · rw [Nat.add_mul]; omega
    · rw [ByteArray.size_append, ByteArray.size_append, Nat.add_mul]
      have : (strB [47]).size = 1 := rfl
      omega
/-- Numbers of a row. -/
def tsV (f : Nat → Nat) (n : Nat) : Array Value := ((List.range n).map fun i => Value.int .i64 (f i : Int)).toArray
theorem tsV_at (f : Nat → Nat) {n i : Nat} (h : i < n) : (tsV f n)[i]? = some (.int .i64 (f i : Int)) := by
  unfold tsV; simp [h]
theorem tsV_set (f : Nat → Nat) {n x : Nat} : (tsV f n).setIfInBounds x (.int .i64 ((f x : Int) + 1)) = tsV (fun i => if i = x then f i + 1 else f i) n := by
  apply Array.ext_getElem?
  intro i
  unfold tsV
  rw [Array.getElem?_setIfInBounds]
  by_cases h : x = i
  · subst h
    simp
    by_cases hx : x < n
    · simp [hx]
    · simp [hx]
  · rw [if_neg h]
    have h2 : ¬ i = x := fun e => h e.symm
    by_cases hi : i < n
    · simp [hi, h2]
    · simp [hi]
theorem tsV_congr {f g : Nat → Nat} {n : Nat} (h : ∀ i, i < n → f i = g i) : tsV f n = tsV g n := by
  unfold tsV
  congr 1
  exact List.map_congr_left fun i hi => by rw [h i (List.mem_range.1 hi)]
theorem tsV_zero (n : Nat) : reps n (.int .i64 0) = tsV (fun _ => 0) n := by
  apply Array.ext_getElem?
  intro i
  unfold tsV
  by_cases hi : i < n
  · rw [reps_at _ hi]; simp [hi]
  · rw [Array.getElem?_eq_none (by rw [reps_size]; omega)]; simp [hi]
theorem kids_count (l : List FileR) (dir : ByteArray) (i : Nat) : ∀ k, (kidsF l dir k).count (i : Int) = if i < k ∧ kidB dir (fAt l i) = true then 1 else 0
  | 0 => by simp [kidsF]
  | k + 1 => by
    have ih := kids_count l dir i k
    rw [kidsF_succ]
    by_cases hb : kidB dir (fAt l k) = true
    · rw [if_pos hb, List.count_append, ih]
      by_cases e : i = k
      · subst e; simp [hb]
      · have : ([(k : Int)].count (i : Int)) = 0 := by
          rw [List.count_eq_zero]; simp; omega
        rw [this]
        by_cases h2 : i < k
        · simp [h2, show i < k + 1 by omega]
        · simp [h2, show ¬ i < k + 1 by omega]
    · rw [if_neg hb, ih]
      by_cases e : i = k
      · subst e; simp [hb]
      · by_cases h2 : i < k
        · simp [h2, show i < k + 1 by omega]
        · simp [h2, show ¬ i < k + 1 by omega]
theorem kids_pair (l : List FileR) (dir : ByteArray) (k : Nat) : (kidsF l dir k).Pairwise (· < ·) := by
  unfold kidsF
  rw [List.pairwise_map]
  refine (List.pairwise_lt_range.sublist List.filter_sublist).imp ?_
  intro a b h
  exact Int.ofNat_lt.2 h
theorem kids_in {l : List FileR} {dir : ByteArray} {k : Nat} {x : Int} (h : x ∈ kidsF l dir k) : ∃ i : Nat, x = (i : Int) ∧ i < k := by
  unfold kidsF at h
  obtain ⟨i, hi, rfl⟩ := List.mem_map.1 h
  rw [List.mem_filter, List.mem_range] at hi
  exact ⟨i, rfl, hi.1⟩
theorem timesF_succ {l : List FileR} {D : List ByteArray} {d : Nat} (h : d < D.length) (i : Nat) (hi : i < l.length) : timesF l (D.take (d + 1)) i = timesF l (D.take d) i + (kidsF l (tAt D d) l.length).count (i : Int) := by
  rw [List.take_succ_eq_append_getElem h, timesF_snoc, kids_count, tAt_eq h]
  by_cases hb : kidB D[d] (fAt l i) = true
  · simp [hb, hi]
  · simp [hb]
theorem timesF_le (l : List FileR) (D : List ByteArray) (i : Nat) : timesF l D i ≤ D.length := by unfold timesF; exact List.length_filter_le _ _
theorem int_cell {w : World} {p : Option Addr} {n c : Nat} {l : List Int} (s : SeqAt IsInt w.heap (.slice p n c) l) {i : Nat} (hi : i < l.length) : ∃ b off, p = some ⟨b, off, none⟩ ∧ w.cell? ⟨b, off + i, none⟩ = some (.int .i64 l[i]) := by
  obtain ⟨b, off, c', u, e, c1, r1⟩ := seq_cell s hi
  injection e with e1 _ _
  unfold IsInt at r1
  exact ⟨b, off, e1, by rw [c1, r1]⟩
set_option maxRecDepth 100000 in
set_option maxHeartbeats 8000000 in
theorem pathwhole_any (v : Value) (l : List FileR) (w : World) (h : FilesAt w.heap v l) (hcap : ∀ a n q, v = .slice a n q → n ≤ q) : Calls Tryd.prog 9 #[v] w fun e w' => e = .returned (.bool true) ∧ Keeps w w' := by
  obtain ⟨pa, qa, rfl⟩ := rec_shape h
  have hqa : l.length ≤ qa := hcap _ _ _ rfl
  have H := Lib.hid h
  clear h hcap
  cases hlb : longF l with
  | true =>
    have HL := Lib.hid hlb
    clear hlb
    go_enter Tryd.func9, Tryd.ntmps9
    go_wp2_with fail
    refine Calls.mono (long18_any _ l _ H.out) ?_
    rintro e w' ⟨rfl, rfl⟩
    rw [HL.out]
    go_wp2_with fail
    refine Calls.mono (awake_any _) ?_
    rintro e w1 ⟨rfl, hk⟩
    go_wp2_with fail
    go_ret
    exact ⟨rfl, hk⟩
  | false =>
  have HL := Lib.hid hlb
  obtain ⟨hln, _⟩ := longF_no hlb
  clear hlb
  have hmk : ∀ W : World, (Instr.makeSlice 55 (.int .i64 (l.length : Int)) (.int .i64 (l.length : Int))).run Tryd.prog W = .ok (.slice (some ⟨W.heap.size, 0, none⟩) l.length l.length) (W.alloc (.cells (tsV (fun _ => 0) l.length) 3)) := fun W => by
    rw [← tsV_zero]
    exact run_mk 55 3 8 (.int .i64 0) Tryd.underlying55 (by kernel_rfl) rfl l.length (by omega) (by omega) W
  go_enter Tryd.func9, Tryd.ntmps9
  go_wp2_with fail
  refine Calls.mono (long18_any _ l _ H.out) ?_
  rintro e w' ⟨rfl, rfl⟩
  rw [HL.out]
  go_wp2_with fail
  refine Calls.mono (awake_any _) ?_
  rintro e w1 ⟨rfl, hk⟩
  have HK1 := Lib.hid hk
  have H1 := Lib.hid (RecAt.keeps H.out hk)
  have H0 := H
  clear hk
  go_wp2_with fail
  refine Calls.mono (tree_any _ l _ H1.out (longF_small HL.out)) ?_
  rintro e w3 ⟨rfl, hk⟩
  have HK3 := Lib.hid (HK1.out.trans hk)
  have H3 := Lib.hid (RecAt.keeps H1.out hk)
  clear hk HK1 H1 H
  cases ht : treeF l with
  | false =>
    clear ht
    go_wp2_with fail
    go_ret
    exact ⟨rfl, HK3.out⟩
  | true =>
    have HT := Lib.hid (tree_of ht)
    clear ht
    have hl63 : (l.length : Int) ≤ 300 := by omega
    go_wp2_with fail
    have HB6 := Lib.hid (BlkAt.new w3 3 (tsV (fun _ => 0) l.length))
    have HK6 : Hid (Keeps w (w3.alloc (.cells (tsV (fun _ => 0) l.length) 3))) := HK3.out.trans (kal _ _)
    have H6 := Lib.hid (RecAt.keeps H3.out (kal w3 (.cells (tsV (fun _ => 0) l.length) 3)))
    have HN6 : Hid ((w3.alloc (.cells (tsV (fun _ => 0) l.length) 3)).heap.size = w3.heap.size + 1) := by show _ = _; simp
    have HN3 : Hid (w.heap.size ≤ w3.heap.size) := HK3.out.size
    have HD6 : Hid (OwnSeq (w3.alloc (.cells (tsV (fun _ => 0) l.length) 3)).heap.size 9 IsText ((w3.alloc (.cells (tsV (fun _ => 0) l.length) 3)).alloc (.cells #[.string ⟨#[]⟩] 9)) (.slice (some ⟨w3.heap.size + 1, 0, none⟩) 1 1) (dirsF l 0)) := by
      refine ⟨[.string ⟨#[]⟩], ?_, rfl, fun i hi hi' => ?_⟩
      · refine ⟨rfl, .inr ⟨w3.heap.size + 1, 1, #[.string ⟨#[]⟩], rfl, by simp, ?_, Nat.le_refl _, by simp [maxLen], rfl, rfl⟩⟩
        have := World.alloc_heap_new (w3.alloc (.cells (tsV (fun _ => 0) l.length) 3)) (.cells #[.string ⟨#[]⟩] 9)
        rwa [World.size_alloc] at this
      · have : i = 0 := by simp at hi; exact hi
        subst this; rfl
    clear HK3 H3 hmk
    generalize hw6 : w3.alloc (.cells (tsV (fun _ => 0) l.length) 3) = w6 at *
    clear hw6
    generalize w3.heap.size = N at *
    go_loopw [4, 5, 6] (fun dv sz i wr => ∃ k : Nat, k ≤ l.length ∧ i = .int .i64 k ∧ Hid (OwnSeq w6.heap.size 9 IsText wr dv (dirsF l k)) ∧ sz = .int .i64 (sizeF (l.take k) : Int) ∧ Hid (Keeps w6 wr)) (fun _ _ i _ => l.length - (intOf i).toNat)
    case atStart => exact ⟨0, by omega, rfl, by exact HD6, rfl, by exact kal _ _⟩
    case round =>
      obtain ⟨k, hk, rfl, hD, rfl, hK⟩ := hrel
      by_cases hlt : k < l.length
      · have hlt64 : (k : Int) < (l.length : Int) := by omega
        have hk0 : (0 : Int) ≤ (k : Int) := by omega
        obtain ⟨b6, o6, rfl, _, d0, d1, d2⟩ := file_cell (RecAt.keeps H6.out hK.out) hlt
        have HPS : Hid ((fAt l k).p.size ≤ 400) := ((longF_no HL.out).2 _ (fAt_mem hlt)).1
        have HTS : Hid ((fAt l k).t.size ≤ 20000) := ((longF_no HL.out).2 _ (fAt_mem hlt)).2
        have HMP : Hid (mayPath (fAt l k).p.data.toList = true) := HT.out.may (fAt_mem hlt)
        have HZ := Lib.hid (may_size HMP.out)
        have HAB := Lib.hid (fun wx => above_any (fAt l k).p wx (by have := HPS.out; omega))
        have HST := Lib.hid (fun wx => steps_any (fAt l k).p wx (by have := HPS.out; omega))
        have HMN := Lib.hid (steps_many HZ.out)
        have HJP := Lib.hid (joinT_steps HZ.out)
        have HLA : Hid (upIs (fAt l k).p = true → upT (fAt l k).p ++ strB [47] ++ tAt (stepsT (fAt l k).p) ((stepsT (fAt l k).p).length - 1) = (fAt l k).p) := fun e => (steps_last HZ.out e).1
        have HSL : Hid ((stepsT (fAt l k).p).length ≤ 401) := by
          show _ ≤ _
          have h1 := split_len (fAt l k).p.data.toList
          have h2 := HPS.out
          rw [data_size] at h1
          unfold stepsT; rw [if_neg HZ.out, List.length_map]; omega
        have HSZ : Hid (∀ j, j < (stepsT (fAt l k).p).length → (tAt (stepsT (fAt l k).p) j).size ≤ 400) := fun j hj => by
          rw [tAt_eq hj]
          exact Nat.le_trans (stepsT_size (List.getElem_mem hj)) HPS.out
        have HSZ2 := Lib.hid (sizeF_take hlt)
        have HZB : Hid (sizeF (l.take k) + (fAt l k).t.size ≤ 1000000000) := by
          show _ ≤ _
          have h1 := sizeF_le l (k + 1)
          have h2 := longF_size HL.out
          rw [sizeF_take hlt] at h1
          omega
        have HDS := Lib.hid (dirsF_succ hlt)
        have hzb := HZB.out
        obtain ⟨us, hu1, hu2, hu3⟩ := hD.out
        have hul : us.length ≤ 301 := by
          rw [hu2]
          unfold dirsF
          rw [List.length_cons, List.length_map]
          have h1 := List.length_filter_le (fun x : FileR => x.d) (l.take k)
          rw [List.length_take] at h1
          omega
        obtain ⟨pv, qv, rfl⟩ := own_slice hu1
        have HU := Lib.hid hu1
        have HL2 := Lib.hid hu2
        have HL3 := Lib.hid hul
        have HU3 := Lib.hid hu3
        have hszk := hK.out.size
        clear hu1 hu2 hu3 hul
        generalize hS : stepsT (fAt l k).p = S at *
        clear hS
        generalize upIs (fAt l k).p = I at *
        generalize upT (fAt l k).p = U at *
        generalize hPP : (fAt l k).p = P at *
        generalize hTT : (fAt l k).t = T at *
        have HPT : Hid ((fAt l k).p = P ∧ (fAt l k).t = T) := ⟨hPP, hTT⟩
        clear hPP hTT
        generalize sizeF (l.take k) = t at *
        have hsl := HSL.out
        cases hdk : (fAt l k).d with
        | false =>
          rw [hdk] at d1 HDS
          have HDZ : Hid (OwnSeq w6.heap.size 9 IsText wr (.slice pv us.length qv) (dirsF l (k + 1))) := by show OwnSeq _ _ _ _ _ _; rw [HDS.out]; exact ⟨us, HU.out, HL2.out, HU3.out⟩
          have HKZ := hK
          clear hD hK HU HL2 HL3 HU3 HDS hdk
          go_wp2_with fail
          refine Calls.mono (HST.out _) ?_
          rintro e w8 ⟨v8, rfl, hs8, hk8⟩
          obtain ⟨p8, q8, rfl⟩ := seq_shape hs8.at_
          have HS8 := Lib.hid hs8.at_
          have HK8 := Lib.hid (HKZ.out.trans hk8)
          have HD8 := Lib.hid (OwnSeq.chg (T := fun _ => False) HDZ.out (Kept.any hk8) (fun _ _ x => x) (fun _ _ _ x => x))
          replace d0 := keeps_cell hk8 d0
          clear hs8 hk8 HKZ HDZ HST d1 d2
          go_wp2_with fail
          go_loopw [7, 9] (fun s i wx => ∃ j : Nat, j ≤ S.length ∧ i = .int .i64 j ∧ s = .string (joinT S j) ∧ w8 = wx) (fun _ i _ => S.length - (intOf i).toNat)
          case atStart => exact ⟨0, by omega, rfl, rfl, rfl⟩
          case round =>
            obtain ⟨j, hj, rfl, rfl, rfl⟩ := hrel
            by_cases hjl : j < S.length
            · have hj64 : (j : Int) < (S.length : Int) := by omega
              have hj0 : (0 : Int) ≤ (j : Int) := by omega
              obtain ⟨b9, o9, rfl, f0⟩ := text_cell HS8.out hjl
              have hz1 := joinT_size HSZ.out j (by omega)
              have hz2 := HSZ.out j hjl
              have hjs := joinT_succ hjl
              by_cases h0 : j = 0
              · subst h0
                rw [if_pos rfl] at hjs
                rw [Nat.add_zero] at f0
                have g1 : joinT S 0 ++ tAt S 0 = tAt S 0 := by rw [joinT_zero]; simp
                have g2 : (joinT S 0).size + (tAt S 0).size ≤ 1000000 := by omega
                have HJS := Lib.hid hjs
                clear hz1 hz2 hjs
                generalize tAt S 0 = y at *
                generalize joinT S 0 = x at *
                go_wp2_with fail
                exact ⟨⟨1, by omega, by go_num, by rw [HJS.out], by first | rfl | trivial⟩, by simp [intOf]; omega⟩
              · rw [if_neg h0] at hjs
                have g0 : decide ((0 : Int) < (j : Int)) = true := decide_eq_true (by omega)
                have g0' : decide (0 < j) = true := decide_eq_true (by omega)
                have g0'' : 0 < j := by omega
                obtain ⟨z, hz⟩ : ∃ z, joinT S j ++ (⟨#[47]⟩ : ByteArray) = z := ⟨_, rfl⟩
                have hz3 : z.size = (joinT S j).size + 1 := by rw [← hz, ByteArray.size_append]; rfl
                have HJS : Hid (joinT S (j + 1) = z ++ tAt S j) := by show _ = _; rw [hjs, ← hz]; rfl
                have g2 : z.size + (tAt S j).size ≤ 1000000 := by omega
                have g3 : (joinT S j).size ≤ 1000000 := by omega
                clear hz1 hz2 hz3 hjs h0
                generalize tAt S j = y at *
                generalize joinT S j = x at *
                go_wp2_with fail
                exact ⟨⟨j + 1, by omega, by go_num, by rw [HJS.out], by first | rfl | trivial⟩, by simp [intOf]; omega⟩
            · obtain rfl : j = S.length := by omega
              rw [HJP.out]
              go_wp2_with fail
              refine Calls.mono (HAB.out _) ?_
              rintro e wz2 ⟨rfl, rfl⟩
              go_wp2_with fail
              refine Calls.mono (may_any P _) ?_
              rintro e w9 ⟨rfl, hk9⟩
              rw [HMP.out]
              have HK9 := Lib.hid (HK8.out.trans hk9)
              have HD9 := Lib.hid (OwnSeq.chg (T := fun _ => False) HD8.out (Kept.any hk9) (fun _ _ x => x) (fun _ _ _ x => x))
              have hs9 := SeqAt.keeps HS8.out hk9
              clear hk9 HD8 HK8
              cases I with
              | false =>
                have g1 : decide ((1 : Int) < (S.length : Int)) = false := by
                  have := HMN.out
                  exact decide_eq_false fun x => by rw [decide_eq_true (by omega)] at this; cases this
                clear HMN HLA hs9
                go_wp2_with fail
                exact ⟨⟨k + 1, by omega, by go_num, by exact HD9, by rw [HSZ2.out]; go_num, by exact HK9⟩, by simp [intOf]; omega⟩
              | true =>
                have g1 : decide ((1 : Int) < (S.length : Int)) = true := by
                  have := HMN.out
                  exact decide_eq_true (by have := of_decide_eq_true this.symm; omega)
                obtain ⟨b9, o9, rfl, f0⟩ := text_cell hs9 (i := S.length - 1) (by have := of_decide_eq_true g1; omega)
                obtain ⟨z, hz⟩ : ∃ z, U ++ (⟨#[47]⟩ : ByteArray) = z := ⟨_, rfl⟩
                have hz2 : z ++ tAt S (S.length - 1) = P := by rw [← hz]; exact HLA.out rfl
                have hz3 : z.size = U.size + 1 := by rw [← hz, ByteArray.size_append]; rfl
                have hz4 : z.size + (tAt S (S.length - 1)).size = P.size := by
                  have := congrArg ByteArray.size hz2
                  rwa [ByteArray.size_append] at this
                have hps := HPS.out
                have hn0 := of_decide_eq_true g1
                have hn1 : (((S.length - 1 : Nat) : Int)) = (S.length : Int) - 1 := by omega
                have hn2 : ((S.length : Int) - 1).toNat = S.length - 1 := by omega
                clear HMN HLA hs9
                generalize tAt S (S.length - 1) = y at *
                go_wp2_with fail
                exact ⟨⟨k + 1, by omega, by go_num, by exact HD9, by rw [HSZ2.out]; go_num, by exact HK9⟩, by simp [intOf]; omega⟩
        | true =>
          rw [hdk] at d1 HDS
          go_upto_region 13 with (at_builtin; refine wp_app1 elText rfl (.tmp 41) (.tmp 47) rfl w6.heap.size (.slice pv us.length qv) us rfl (HU.out.alloc _) _ (.string P) rfl (World.cell?_alloc_new _ _ _ _) rfl (by have := HL3.out; omega) (by simp; omega) ?_; intro v' w7 hown hchg; have HP7 := Lib.hid (OwnSeq.push (R := IsText) (R' := IsText) (l := dirsF l k) HL2.out HU3.out hown (fun _ _ _ x => x) rfl); have HK7 : Hid (Keeps w6 w7) := hK.out.then (chg_kept (B := w6.heap.size) (Chg.trans (Kept.any (kal _ _)) hchg) (fun q _ e => (own_block HU.out q e).1) hK.out.size) (Nat.le_refl _); clear hown hchg)
          have HDZ : Hid (OwnSeq w6.heap.size 9 IsText w7 v' (dirsF l (k + 1))) := by show OwnSeq _ _ _ _ _ _; rw [HDS.out]; exact HP7.out
          have HKZ := HK7
          obtain ⟨b7, o7, e7, _, f0, _, f2⟩ := file_cell (RecAt.keeps H6.out HK7.out) hlt
          injection e7 with e7
          injection e7 with e71 e72 _
          subst e71 e72
          rw [HPT.out.1] at f0
          rw [HPT.out.2] at f2
          replace d0 := f0
          replace d2 := f2
          clear hD hK HU HL2 HL3 HU3 HDS hdk HP7 HK7 f0 f2
          go_wp2_with fail
          refine Calls.mono (HST.out _) ?_
          rintro e w8 ⟨v8, rfl, hs8, hk8⟩
          obtain ⟨p8, q8, rfl⟩ := seq_shape hs8.at_
          have HS8 := Lib.hid hs8.at_
          have HK8 := Lib.hid (HKZ.out.trans hk8)
          have HD8 := Lib.hid (OwnSeq.chg (T := fun _ => False) HDZ.out (Kept.any hk8) (fun _ _ x => x) (fun _ _ _ x => x))
          replace d0 := keeps_cell hk8 d0
          clear hs8 hk8 HKZ HDZ HST d1 d2
          go_wp2_with fail
          go_loopw [7, 9] (fun s i wx => ∃ j : Nat, j ≤ S.length ∧ i = .int .i64 j ∧ s = .string (joinT S j) ∧ w8 = wx) (fun _ i _ => S.length - (intOf i).toNat)
          case atStart => exact ⟨0, by omega, rfl, rfl, rfl⟩
          case round =>
            obtain ⟨j, hj, rfl, rfl, rfl⟩ := hrel
            by_cases hjl : j < S.length
            · have hj64 : (j : Int) < (S.length : Int) := by omega
              have hj0 : (0 : Int) ≤ (j : Int) := by omega
              obtain ⟨b9, o9, rfl, f0⟩ := text_cell HS8.out hjl
              have hz1 := joinT_size HSZ.out j (by omega)
              have hz2 := HSZ.out j hjl
              have hjs := joinT_succ hjl
              by_cases h0 : j = 0
              · subst h0
                rw [if_pos rfl] at hjs
                rw [Nat.add_zero] at f0
                have g1 : joinT S 0 ++ tAt S 0 = tAt S 0 := by rw [joinT_zero]; simp
                have g2 : (joinT S 0).size + (tAt S 0).size ≤ 1000000 := by omega
                have HJS := Lib.hid hjs
                clear hz1 hz2 hjs
                generalize tAt S 0 = y at *
                generalize joinT S 0 = x at *
                go_wp2_with fail
                exact ⟨⟨1, by omega, by go_num, by rw [HJS.out], by first | rfl | trivial⟩, by simp [intOf]; omega⟩
              · rw [if_neg h0] at hjs
                have g0 : decide ((0 : Int) < (j : Int)) = true := decide_eq_true (by omega)
                have g0' : decide (0 < j) = true := decide_eq_true (by omega)
                have g0'' : 0 < j := by omega
                obtain ⟨z, hz⟩ : ∃ z, joinT S j ++ (⟨#[47]⟩ : ByteArray) = z := ⟨_, rfl⟩
                have hz3 : z.size = (joinT S j).size + 1 := by rw [← hz, ByteArray.size_append]; rfl
                have HJS : Hid (joinT S (j + 1) = z ++ tAt S j) := by show _ = _; rw [hjs, ← hz]; rfl
                have g2 : z.size + (tAt S j).size ≤ 1000000 := by omega
                have g3 : (joinT S j).size ≤ 1000000 := by omega
                clear hz1 hz2 hz3 hjs h0
                generalize tAt S j = y at *
                generalize joinT S j = x at *
                go_wp2_with fail
                exact ⟨⟨j + 1, by omega, by go_num, by rw [HJS.out], by first | rfl | trivial⟩, by simp [intOf]; omega⟩
            · obtain rfl : j = S.length := by omega
              rw [HJP.out]
              go_wp2_with fail
              refine Calls.mono (HAB.out _) ?_
              rintro e wz2 ⟨rfl, rfl⟩
              go_wp2_with fail
              refine Calls.mono (may_any P _) ?_
              rintro e w9 ⟨rfl, hk9⟩
              rw [HMP.out]
              have HK9 := Lib.hid (HK8.out.trans hk9)
              have HD9 := Lib.hid (OwnSeq.chg (T := fun _ => False) HD8.out (Kept.any hk9) (fun _ _ x => x) (fun _ _ _ x => x))
              have hs9 := SeqAt.keeps HS8.out hk9
              clear hk9 HD8 HK8
              cases I with
              | false =>
                have g1 : decide ((1 : Int) < (S.length : Int)) = false := by
                  have := HMN.out
                  exact decide_eq_false fun x => by rw [decide_eq_true (by omega)] at this; cases this
                clear HMN HLA hs9
                go_wp2_with fail
                exact ⟨⟨k + 1, by omega, by go_num, by exact HD9, by rw [HSZ2.out]; go_num, by exact HK9⟩, by simp [intOf]; omega⟩
              | true =>
                have g1 : decide ((1 : Int) < (S.length : Int)) = true := by
                  have := HMN.out
                  exact decide_eq_true (by have := of_decide_eq_true this.symm; omega)
                obtain ⟨b9, o9, rfl, f0⟩ := text_cell hs9 (i := S.length - 1) (by have := of_decide_eq_true g1; omega)
                obtain ⟨z, hz⟩ : ∃ z, U ++ (⟨#[47]⟩ : ByteArray) = z := ⟨_, rfl⟩
                have hz2 : z ++ tAt S (S.length - 1) = P := by rw [← hz]; exact HLA.out rfl
                have hz3 : z.size = U.size + 1 := by rw [← hz, ByteArray.size_append]; rfl
                have hz4 : z.size + (tAt S (S.length - 1)).size = P.size := by
                  have := congrArg ByteArray.size hz2
                  rwa [ByteArray.size_append] at this
                have hps := HPS.out
                have hn0 := of_decide_eq_true g1
                have hn1 : (((S.length - 1 : Nat) : Int)) = (S.length : Int) - 1 := by omega
                have hn2 : ((S.length : Int) - 1).toNat = S.length - 1 := by omega
                clear HMN HLA hs9
                generalize tAt S (S.length - 1) = y at *
                go_wp2_with fail
                exact ⟨⟨k + 1, by omega, by go_num, by exact HD9, by rw [HSZ2.out]; go_num, by exact HK9⟩, by simp [intOf]; omega⟩
      · obtain rfl : k = l.length := by omega
        rw [List.take_length]
        have HDL : Hid (SeqIn (fun b => N < b) 9 IsText wr.heap u4 (dirsF l l.length)) := by
          have h9 := hD.out.seq (by
            unfold dirsF
            rw [List.length_cons, List.length_map]
            have h1 := List.length_filter_le (fun x : FileR => x.d) (l.take l.length)
            rw [List.length_take] at h1
            omega)
          exact SeqIn.mono h9 (fun b hb => by have := HN6.out; omega) fun _ _ x => x
        have HTK : Hid (∀ i, i < l.length → timesF l (dirsF l l.length) i = 1) := fun i hi => tree_kids HT.out hi
        have HDB : Hid ((dirsF l l.length).length ≤ 301 ∧ ∀ j, j < (dirsF l l.length).length → (tAt (dirsF l l.length) j).size ≤ 400) := by
          refine ⟨?_, fun j hj => ?_⟩
          · unfold dirsF
            rw [List.length_cons, List.length_map]
            have h1 := List.length_filter_le (fun x : FileR => x.d) (l.take l.length)
            rw [List.length_take] at h1
            omega
          · rw [tAt_eq hj]
            have hm := List.getElem_mem hj
            unfold dirsF at hm
            rcases List.mem_cons.1 hm with e | e
            · unfold dirsF; rw [e]; exact Nat.zero_le _
            · obtain ⟨x, hx, e2⟩ := List.mem_map.1 e
              rw [List.mem_filter, List.take_length] at hx
              unfold dirsF
              rw [← e2]
              exact ((longF_no HL.out).2 x hx.1).1
        have HBR := Lib.hid (HB6.out.keeps hK.out)
        have HR := Lib.hid (RecAt.keeps H6.out hK.out)
        have HKR : Hid (Keeps w wr) := HK6.out.trans hK.out
        have HSZ := Lib.hid (longF_size HL.out)
        have HNR : Hid (w.heap.size ≤ N ∧ N < wr.heap.size) := by
          refine ⟨HN3.out, ?_⟩
          have := hK.out.size; have := HN6.out; omega
        obtain ⟨p4, q4, rfl⟩ := seq_shape (SeqIn.at_ HDL.out)
        clear hD hK HB6 H6 HK6 HD6 HN6
        generalize dirsF l l.length = D at *
        generalize hsz : sizeF l = sz at *
        have HSZE := Lib.hid hsz
        clear hsz
        obtain ⟨w7, hw7⟩ : ∃ w7 : World, w7 = wr := ⟨_, rfl⟩
        subst hw7
        have hdb := HDB.out.1
        have HR0 : Hid (∀ wx, Chg (fun k => k = N) w7 wx → Keeps w wx) := fun wx hc => HKR.out.then (chg_kept (B := w.heap.size) hc (fun q _ e => by rw [e]; exact HNR.out.1) HKR.out.size) (Nat.le_refl _)
        have HB7 : Hid (BlkAt w7 N 3 (tsV (timesF l (D.take 0)) l.length)) := HBR.out
        clear HR HBR HKR
        go_wp2_with fail
        go_loopw [12] (fun i wx => ∃ d : Nat, d ≤ D.length ∧ i = .int .i64 d ∧ Hid (BlkAt wx N 3 (tsV (timesF l (D.take d)) l.length)) ∧ Hid (Chg (fun k => k = N) w7 wx)) (fun i _ => D.length - (intOf i).toNat)
        case atStart => exact ⟨0, by omega, rfl, by exact HB7, by exact Chg.refl _ _⟩
        case round =>
          obtain ⟨d, hd, rfl, hB, hC⟩ := hrel
          by_cases hdl : d < D.length
          · have hd64 : (d : Int) < (D.length : Int) := by omega
            have hd0 : (0 : Int) ≤ (d : Int) := by omega
            have hs9 : SeqIn (fun b => N < b) 9 IsText wr.heap (.slice p4 D.length q4) D := SeqIn.chg HDL.out hC.out (fun b _ hb _ e => by omega) (fun _ _ _ x => x)
            obtain ⟨b4, o4, rfl, f0⟩ := text_cell (SeqIn.at_ hs9) hdl
            have HTS := Lib.hid (timesF_succ (l := l) hdl)
            have HKD := Lib.hid (fun wx (hc : Chg (fun k => k = N) w7 wx) => kids_any _ l (tAt D d) wx (RecAt.keeps H0.out (HR0.out wx hc)) (longF_small HL.out) (by omega))
            have HKL := Lib.hid (kidsF_len l (tAt D d) l.length)
            have HKP := Lib.hid (kids_pair l (tAt D d) l.length)
            have HKI : Hid (∀ x ∈ kidsF l (tAt D d) l.length, ∃ i : Nat, x = (i : Int) ∧ i < l.length) := fun x hx => kids_in hx
            clear hs9
            generalize kidsF l (tAt D d) l.length = K at *
            generalize tAt D d = dd at *
            go_wp2_with fail
            refine Calls.mono (HKD.out _ hC.out) ?_
            rintro e wk ⟨vk, rfl, hsk, hkk⟩
            have HBk := Lib.hid (hB.out.keeps hkk)
            have HCk := Lib.hid (hC.out.call hkk)
            have HIk : Hid (SeqIn (fun b => N < b) 3 IsInt wk.heap vk K) := SeqIn.mono hsk (fun b hb => by have := HNR.out.2; have := hC.out.size; show N < b; omega) fun _ _ x => x
            obtain ⟨pk, qk, rfl⟩ := seq_shape (SeqIn.at_ HIk.out)
            clear hsk hkk HKD hB hC f0
            have hkl := HKL.out
            go_wp2_with fail
            go_loopw [14] (fun i wx => ∃ (j : Nat) (f : Nat → Nat), j ≤ K.length ∧ i = .int .i64 j ∧ Hid (BlkAt wx N 3 (tsV f l.length)) ∧ Hid (∀ i, i < l.length → f i = timesF l (D.take d) i + (K.take j).count (i : Int)) ∧ Hid (Chg (fun k => k = N) wk wx)) (fun i _ => K.length - (intOf i).toNat)
            case atStart => exact ⟨0, timesF l (D.take d), by omega, rfl, by exact HBk, fun i _ => by simp, by exact Chg.refl _ _⟩
            case round =>
              obtain ⟨j, f, hj, rfl, hB, hF, hC⟩ := hrel
              by_cases hjl : j < K.length
              · have hj64 : (j : Int) < (K.length : Int) := by omega
                have hj0 : (0 : Int) ≤ (j : Int) := by omega
                have hs9 : SeqIn (fun b => N < b) 3 IsInt wr.heap (.slice pk K.length qk) K := SeqIn.chg HIk.out hC.out (fun b _ hb _ e => by omega) (fun _ _ _ x => x)
                obtain ⟨bk, ok, rfl, f1⟩ := int_cell (SeqIn.at_ hs9) hjl
                obtain ⟨x, hx, hxn⟩ := HKI.out _ (List.getElem_mem hjl)
                have c0 : wr.cell? ⟨N, x, none⟩ = some (.int .i64 (f x : Int)) := hB.out.cell (tsV_at f hxn)
                have fr : wr.frozen? ⟨N, x, none⟩ = false := hB.out.froz x
                have HFX : Hid (f x ≤ 1000) := by
                  show _ ≤ _
                  rw [hF.out x hxn]
                  have h1 := timesF_le l (D.take d) x
                  have h2 : (K.take j).count (x : Int) ≤ (K.take j).length := List.count_le_length
                  rw [List.length_take] at h1 h2
                  omega
                have hfx := HFX.out
                have HF2 : Hid (∀ i, i < l.length → (if i = x then f i + 1 else f i) = timesF l (D.take d) i + (K.take (j + 1)).count (i : Int)) := fun i hi => by
                  rw [List.take_succ_eq_append_getElem hjl, List.count_append, hx]
                  have h1 := hF.out i hi
                  by_cases e : i = x
                  · subst e; rw [if_pos rfl, h1]; simp; omega
                  · rw [if_neg e, h1]
                    have : ([(x : Int)].count (i : Int)) = 0 := by rw [List.count_eq_zero]; simp; omega
                    omega
                have hx0 : (0 : Int) ≤ (x : Int) := by omega
                have hx1 : decide ((x : Int) < 0) = false := decide_eq_false (by omega)
                have hx2 : decide ((l.length : Int) ≤ (x : Int)) = false := decide_eq_false (by omega)
                have hx3 : decide (l.length ≤ x) = false := decide_eq_false (by omega)
                have hx4 : (x : Int) < (l.length : Int) := by omega
                by_cases h0 : j = 0
                · subst h0
                  rw [Nat.add_zero] at f1
                  rw [hx] at f1
                  clear hx hs9
                  go_wp2_with fail
                  go_quiet (fail)
                  have c0' : (wr.drewN nq).cell? ⟨N, x, none⟩ = some (.int .i64 (f x : Int)) := c0
                  have fr' : (wr.drewN nq).frozen? ⟨N, x, none⟩ = false := fr
                  have f1' : (wr.drewN nq).cell? ⟨bk, ok, none⟩ = some (.int .i64 (x : Int)) := f1
                  go_wp2_with fail
                  exact ⟨⟨1, _, by omega, by go_num, by have := BlkAt.set (show BlkAt (wr.drewN nq) N 3 (tsV f l.length) from hB.out) x (.int .i64 ((f x : Int) + 1)); rw [tsV_set] at this; exact this, HF2.out, Chg.setCell (p := ⟨N, x, none⟩) (show Chg _ wk (wr.drewN nq) from hC.out) (fun _ => rfl) _⟩, by simp [intOf]; omega⟩
                · obtain ⟨i, rfl⟩ : ∃ i, j = i + 1 := ⟨j - 1, by omega⟩
                  obtain ⟨bk2, ok2, ek, f2⟩ := int_cell (SeqIn.at_ hs9) (i := i) (by omega)
                  injection ek with ek
                  injection ek with ek1 ek2 _
                  subst ek1 ek2
                  obtain ⟨y, hy, hyn⟩ := HKI.out _ (List.getElem_mem (show i < K.length by omega))
                  have hlt9 := List.pairwise_iff_getElem.1 HKP.out i (i + 1) (by omega) hjl (by omega)
                  rw [hx, hy] at hlt9
                  rw [hx] at f1
                  rw [hy] at f2
                  have hy1 : decide ((x : Int) ≤ (y : Int)) = false := decide_eq_false (by omega)
                  have hy2 : decide (x ≤ y) = false := decide_eq_false (by omega)
                  have hi0 : decide ((0 : Int) < ((i + 1 : Nat) : Int)) = true := decide_eq_true (by omega)
                  have hi1 : decide ((0 : Int) < (i : Int) + 1) = true := decide_eq_true (by omega)
                  have hi2 : IntKind.i64.wrap ((i : Int) + 1 - 1) = (i : Int) := by rw [IntWalk.i64_in _ (by omega)]; omega
                  have hi3 : (i : Int) < (K.length : Int) := by omega
                  have hi4 : (0 : Int) ≤ (i : Int) := by omega
                  have hi5 : (i : Int) + 1 - 1 = (i : Int) := by omega
                  clear hx hy hs9 hlt9 h0
                  go_wp2_with fail
                  go_quiet (fail)
                  have c0' : (wr.drewN nq).cell? ⟨N, x, none⟩ = some (.int .i64 (f x : Int)) := c0
                  have fr' : (wr.drewN nq).frozen? ⟨N, x, none⟩ = false := fr
                  have f1' : (wr.drewN nq).cell? ⟨bk, ok + (i + 1), none⟩ = some (.int .i64 (x : Int)) := f1
                  go_wp2_with fail
                  exact ⟨⟨i + 1 + 1, _, by omega, by go_num, by have := BlkAt.set (show BlkAt (wr.drewN nq) N 3 (tsV f l.length) from hB.out) x (.int .i64 ((f x : Int) + 1)); rw [tsV_set] at this; exact this, HF2.out, Chg.setCell (p := ⟨N, x, none⟩) (show Chg _ wk (wr.drewN nq) from hC.out) (fun _ => rfl) _⟩, by simp [intOf]; omega⟩
              · obtain rfl : j = K.length := by omega
                have HB9 : Hid (BlkAt wr N 3 (tsV (timesF l (D.take (d + 1))) l.length)) := by
                  have e := tsV_congr (n := l.length) (f := f) (g := timesF l (D.take (d + 1))) fun i hi => by rw [hF.out i hi, HTS.out i hi, List.take_length]
                  show BlkAt _ _ _ _
                  rw [← e]; exact hB.out
                have HC9 : Hid (Chg (fun k => k = N) w7 wr) := HCk.out.trans hC.out
                clear hB hF hC HBk HCk HIk
                go_wp2_with fail
                exact ⟨⟨d + 1, by omega, by go_num, by exact HB9, by exact HC9⟩, by simp [intOf]; omega⟩
          · obtain rfl : d = D.length := by omega
            rw [List.take_length] at hB
            have HC9 := hC
            have HB9 := hB
            clear hB hC HB7
            go_wp2_with fail
            go_loopw [15] (fun i wx => ∃ m : Nat, m ≤ l.length ∧ i = .int .i64 m ∧ wr = wx) (fun i _ => l.length - (intOf i).toNat)
            case atStart => exact ⟨0, by omega, rfl, by first | rfl | trivial⟩
            case round =>
              obtain ⟨m, hm, rfl, rfl⟩ := hrel
              by_cases hml : m < l.length
              · have hm64 : (m : Int) < (l.length : Int) := by omega
                have hm0 : (0 : Int) ≤ (m : Int) := by omega
                have c0 := HB9.out.cell (tsV_at (timesF l D) hml)
                rw [HTK.out m hml] at c0
                replace c0 : wr.cell? ⟨N, m, none⟩ = some (.int .i64 1) := c0
                go_wp2_with fail
                exact ⟨⟨m + 1, by omega, by go_num, by first | rfl | trivial⟩, by simp [intOf]; omega⟩
              · obtain rfl : m = l.length := by omega
                have HKW := Lib.hid (HR0.out _ HC9.out)
                have HFL := Lib.hid (RecAt.keeps H0.out HKW.out)
                go_wp2_with fail
                refine Calls.mono (size_any _ l _ HFL.out (by rw [HSZE.out]; exact HSZ.out)) ?_
                rw [HSZE.out]
                rintro e wa ⟨rfl, hka⟩
                have HKA := Lib.hid (HKW.out.trans hka)
                have HFA := Lib.hid (RecAt.keeps HFL.out hka)
                clear hka
                by_cases hn0 : l.length = 0
                · have g1 : ((l.length : Int) == 0) = true := by rw [hn0]; rfl
                  have g2 : decide ((l.length : Int) = 0) = true := decide_eq_true (by omega)
                  clear HFA HFL HT HTK HB9 HL HC9 HR0 H0
                  go_wp2_with fail
                  go_ret
                  exact ⟨rfl, HKA.out⟩
                · have g1 : ((l.length : Int) == 0) = false := beq_false_of_ne (by omega)
                  have g2 : decide ((l.length : Int) = 0) = false := decide_eq_false (by omega)
                  obtain ⟨bz, oz, rfl, _⟩ := file_cell HFA.out (i := 0) (by omega)
                  have HFR := Lib.hid (HFA.out.front (l.length - 1) (by omega) qa)
                  have HTF := Lib.hid (tree_front HT.out (l.length - 1)).tree
                  have HSF : Hid (SmallF (l.take (l.length - 1))) := smallF_of fun x hx => by have := (longF_no HL.out).2 x (List.mem_of_mem_take hx); omega
                  have n1 : (0 : Int) ≤ (l.length : Int) - 1 := by omega
                  have n2 : (l.length : Int) - 1 ≤ (qa : Int) := by omega
                  have n3 : ((l.length : Int) - 1).toNat = l.length - 1 := by omega
                  have n4 : l.length - 1 ≤ qa := by omega
                  go_wp2_with fail
                  refine Calls.mono (tree_any _ _ _ HFR.out HSF.out) ?_
                  rintro e wb ⟨rfl, hkb⟩
                  have HKB := Lib.hid (HKA.out.trans hkb)
                  rw [HTF.out]
                  clear hkb
                  go_wp2_with fail
                  go_ret
                  exact ⟨rfl, HKB.out⟩
end Go.Proofs.YtdpfanifagfciaaDoor
