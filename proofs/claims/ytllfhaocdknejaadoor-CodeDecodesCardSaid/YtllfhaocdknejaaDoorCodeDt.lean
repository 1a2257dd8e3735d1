/- The walk of code.data. -/
import Derived.Test.YtllfhaocdknejaaDoorCodeSz
import Derived.Test.YtllfhaocdknejaaDoorBlk
import Derived.Lib.BufferWrite
import Derived.Deep.DrawnRows
import Derived.Deep.Cut
import Derived.Deep.RegionLaw
import Derived.Deep.DeepCutAuto
namespace Go.Proofs.YtllfhaocdknejaaDoor
open Go.RowKit
attribute [local go_sem ↓] Go.wp_at_zero Go.wp_at_succ
theorem mk_rowL (n : Nat) (h : n ≤ 1000000) (w : World) : (Instr.makeSlice 39 (.int .i64 (n : Int)) (.int .i64 (n : Int))).run Tryd.prog w = .ok (.slice (some ⟨w.heap.size, 0, none⟩) n n) (w.alloc (.cells (reps n (.int .u8 0)) 5)) :=
  run_mk 39 5 1 (.int .u8 0) Tryd.underlying39 (by kernel_rfl) rfl n (by omega) (by omega) w
theorem reps_bytes (n : Nat) : reps n (.int .u8 0) = ⟨bytesV (List.replicate n 0)⟩ := by unfold reps bytesV; rw [List.map_replicate]; rfl
/-- Where the first k numbers of the head stand. -/
def hdL (m S k : Nat) : List UInt8 := (head8 m).take k ++ List.replicate (S - k) 0
theorem hdL_length {m S k : Nat} (hk : k ≤ 8) (hS : 8 ≤ S) : (hdL m S k).length = S := by unfold hdL; rw [List.length_append, List.length_take, List.length_replicate, head8_length]; omega
theorem hdL_set {m S k : Nat} (hk : k < 8) (hS : 8 ≤ S) : (hdL m S k).set k ((head8 m).getD k 0) = hdL m S (k + 1) := by
  apply List.ext_getElem?
  intro i
  unfold hdL
  rw [List.getElem?_set]
  have hlt : ((head8 m).take k).length = k := by rw [List.length_take, head8_length]; omega
  have hlt2 : ((head8 m).take (k + 1)).length = k + 1 := by rw [List.length_take, head8_length]; omega
  by_cases e : k = i
  · subst e
    rw [if_pos rfl, if_pos (by rw [List.length_append, hlt, List.length_replicate]; omega), List.getElem?_append_left (by omega), List.getElem?_take, if_pos (by omega), List.getD_eq_getElem?_getD, List.getElem?_eq_getElem (by rw [head8_length]; exact hk)]; rfl
  · rw [if_neg e]
    by_cases h : i < k
    · rw [List.getElem?_append_left (by omega), List.getElem?_append_left (by omega), List.getElem?_take, List.getElem?_take, if_pos h, if_pos (by omega)]
    · rw [List.getElem?_append_right (by omega), List.getElem?_append_right (by omega), hlt, hlt2, List.getElem?_replicate, List.getElem?_replicate]
      by_cases h2 : i < S
      · rw [if_pos (by omega), if_pos (by omega)]
      · rw [if_neg (by omega), if_neg (by omega)]
theorem bytesV_set (l : List UInt8) (i : Nat) (x : UInt8) : (⟨bytesV l⟩ : Array Value).setIfInBounds i (.int .u8 (x.toNat : Int)) = ⟨bytesV (l.set i x)⟩ := by
  simp [bytesV]
theorem bytesV_get {l : List UInt8} {i : Nat} (h : i < l.length) : (⟨bytesV l⟩ : Array Value)[i]? = some (.int .u8 ((l.getD i 0).toNat : Int)) := by
  rw [← Array.getElem?_toList, List.getD_eq_getElem?_getD]
  simp [bytesV, h]
/-- 'copy(p, s)' of a text into a row of bytes that is known whole. -/
theorem wp_copy_text {ops : Array Oper} {rest : List Oper} {o : Oper} {a : Act} {w : World} {Q : Exit → Act → World → Prop} (hgd : o.guard = none) (d x : Operand) (ho : o.op = .call { callee := .builtin .copy, args := #[d, x], argTypes := #[39, 9] })
    (g off n c : Nat) (hd : a.eval d = .slice (some ⟨g, off, none⟩) n c) (s : ByteArray) (hx : a.eval x = .string s) (L : List UInt8) (hg : BlkAt w g 5 ⟨bytesV L⟩) (hle : s.size ≤ n) (hfit : off + s.size ≤ L.length)
    (h : ∀ w', BlkAt w' g 5 ⟨bytesV (L.take off ++ s.data.toList ++ L.drop (off + s.size))⟩ → Chg (fun k => k = g) w w' → wpList Tryd.prog ops Q rest (a.put o.dst (goInt s.size)) w') : wpList Tryd.prog ops Q (o :: rest) a w := by
  refine wpList_plain hgd fun K hK => ?_
  have hr := Lib.run_copy_row_string (P := Tryd.prog) w 39 9 o.type 5 g off n c s ⟨bytesV L⟩ 5 Tryd.underlying39 (by kernel_rfl) hg hle (by simp [bytesV]; exact hfit)
  unfold Oper.wp execOp
  simp only [ho, resolve, invoke, builtin, Sem.run_bind, Sem.run_pure, Result.andThen_ok, List.map_toArray, List.map_cons, List.map_nil, hd, hx, hr]
  refine hK _ _ (h _ ?_ (chg_row w g _))
  have e : (bytesV L).take off ++ Lib.byteCells s.data.toList ++ (bytesV L).drop (off + s.size) = bytesV (L.take off ++ s.data.toList ++ L.drop (off + s.size)) := by
    unfold bytesV
    rw [List.map_append, List.map_append, List.map_take, List.map_drop]; rfl
  show BlkAt _ _ _ _
  rw [← e]
  exact setRow_heap w g _ _ _ _ hg
theorem hd_copy {m S : Nat} {D : List UInt8} (hm : D.length = m) (hS : 8 + m ≤ S) : (hdL m S 8).take 8 ++ D ++ (hdL m S 8).drop (8 + m) = head8 m ++ D ++ List.replicate (S - (8 + m)) 0 := by
  have h1 : (head8 m).take 8 = head8 m := List.take_of_length_le (by rw [head8_length]; exact Nat.le_refl _)
  unfold hdL
  rw [h1, List.take_left' (head8_length m), List.drop_append, head8_length, List.drop_of_length_le (by rw [head8_length]; omega), List.nil_append, List.drop_replicate]
  congr 2; omega
theorem hd_copy0 {m S : Nat} {D : List UInt8} (hm : D.length = m) (hS : 8 + m ≤ S) (h8 : S = 8) : (hdL m S 8).take 0 ++ D ++ (hdL m S 8).drop (0 + m) = head8 m ++ D ++ List.replicate (S - (8 + m)) 0 := by
  obtain rfl : m = 0 := by omega
  have : D = [] := List.length_eq_zero_iff.1 hm
  subst this
  subst h8
  rfl
theorem blk_row {w : World} {g : Nat} {W : List UInt8} (h : BlkAt w g 5 ⟨bytesV W⟩) (S : Nat → Prop) (hS : S g) {a s c : Nat} (hb : a + s ≤ W.length) (h63 : s ≤ 9223372036854775807) : RowIn S w.heap (.slice (some ⟨g, a, none⟩) s c) ((W.drop a).take s) := by
  have hl : ((W.drop a).take s).length = s := by rw [List.length_take, List.length_drop]; omega
  refine ⟨_, c, by rw [hl], by omega, fun i hi => ?_⟩
  rw [hl] at hi
  refine ⟨g, a, .int .u8 ((((W.drop a).take s)[i]'(by omega)).toNat : Int), rfl, ⟨hS, h.typ⟩, by rw [← froz_of]; exact h.froz _, ?_, rfl⟩
  rw [← cell_of]
  refine h.cell ?_
  rw [bytesV_get (by omega)]
  congr 4
  rw [List.getD_eq_getElem?_getD, List.getElem?_eq_getElem (by omega)]
  simp
set_option maxRecDepth 100000 in
set_option maxHeartbeats 4000000 in
theorem cdata_any (K : Nat) (n : Int) (s : ByteArray) (w : World) (hK : 1 ≤ K ∧ K ≤ 12) (hs : s.size ≤ 32768) : Calls Tryd.prog 25 #[.agg #[.int .i64 (K : Int), .int .i64 n], .string s, .int .i64 (sizeN K s.size : Int)] w fun e w' => ∃ v, e = .returned v ∧ MatIn (w.heap.size ≤ ·) w'.heap v (dataC K s.data.toList) ∧ Keeps w w' := by
  obtain ⟨hK1, hK12⟩ := hK
  have HT := Lib.hid (sizeN_mul (m := s.size) hK1)
  have HSZ := Lib.hid (sizeN_le (m := s.size) hK1)
  have HP := Lib.hid (sizeN_pos (m := s.size) hK1)
  have HD : Hid (dataC K s.data.toList = (List.range K).map (cutR (sizeN K s.size) (head8 s.size ++ s.data.toList ++ List.replicate (sizeN K s.size * K - (8 + s.size)) 0))) := by
    show _ = _
    unfold dataC wholeB
    rw [data_size]
  have HDL : Hid (s.data.toList.length = s.size) := data_size s
  generalize sizeN K s.size = sz at *
  have HSM : Hid (sz * K = sz * K) := rfl
  obtain ⟨S, hS⟩ : ∃ S, S = sz * K := ⟨_, rfl⟩
  rw [← hS] at HT HD
  have HS := Lib.hid hS
  have hS8 : 8 + s.size ≤ S := HT.out.1
  have hSb : S ≤ 40000 := by have := HT.out.2; omega
  have hsz : sz ≤ 40000 := by have := HSZ.out; omega
  have hw0 : wrap64 ((sz : Int) * (K : Int)) = (S : Int) := by rw [hS, Int.natCast_mul]; exact IntWalk.wrap64_in _ (by rw [← Int.natCast_mul, ← hS]; omega)
  clear hS
  have hmk := mk_rowL S (by omega)
  have hk0 : (0 : Int) ≤ (s.size : Int) := by omega
  have hk1 : (s.size : Int) ≤ 32768 := by omega
  go_enter Tryd.func25, Tryd.ntmps25
  go_wp2_with fail
  have HC0 : Hid (BlkAt ((w.alloc (.cells #[.int .i64 (K : Int), .int .i64 n] 23)).alloc (.cells (reps S (.int .u8 0)) 5)) w.heap.size 23 #[.int .i64 (K : Int), .int .i64 n]) := (BlkAt.new w _ _).keeps (kal _ _)
  have HB0 : Hid (BlkAt ((w.alloc (.cells #[.int .i64 (K : Int), .int .i64 n] 23)).alloc (.cells (reps S (.int .u8 0)) 5)) (w.heap.size + 1) 5 ⟨bytesV (hdL s.size S 0)⟩) := by
    have := BlkAt.new (w.alloc (.cells #[.int .i64 (K : Int), .int .i64 n] 23)) 5 (reps S (.int .u8 0))
    rw [World.size_alloc] at this
    show BlkAt _ _ _ _
    unfold hdL
    rw [List.take_zero, List.nil_append, Nat.sub_zero, ← reps_bytes]
    exact this
  have HK0 : Hid (Keeps w ((w.alloc (.cells #[.int .i64 (K : Int), .int .i64 n] 23)).alloc (.cells (reps S (.int .u8 0)) 5))) := (kal _ _).trans (kal _ _)
  clear hmk hw0
  go_loopw [16] (fun i wr => ∃ k : Nat, k ≤ 8 ∧ i = .int .i64 k ∧ Hid (BlkAt wr (w.heap.size + 1) 5 ⟨bytesV (hdL s.size S k)⟩) ∧ Hid (BlkAt wr w.heap.size 23 #[.int .i64 (K : Int), .int .i64 n]) ∧ Hid (Keeps w wr)) (fun i _ => 8 - (intOf i).toNat)
  case atStart => exact ⟨0, by omega, rfl, HB0, HC0, HK0⟩
  case round =>
    clear HB0 HC0 HK0
    obtain ⟨k, hk, rfl, hB, hC, hK⟩ := hrel
    by_cases hlt : k < 8
    · have hSET := Lib.hid (hdL_set (m := s.size) (S := S) hlt (by omega))
      have b1 := hB.out.cell (bytesV_get (l := hdL s.size S k) (i := k) (by rw [hdL_length hk (by omega)]; omega))
      have b2 := hB.out.froz k
      generalize ((hdL s.size S k).getD k 0).toNat = old at *
      have HNX : Hid (∀ v, v = .int .u8 (((head8 s.size).getD k 0).toNat : Int) → BlkAt (wr.setCell ⟨w.heap.size + 1, k, none⟩ v) (w.heap.size + 1) 5 ⟨bytesV (hdL s.size S (k + 1))⟩) := by
        rintro v rfl
        have := hB.out.set k (.int .u8 (((head8 s.size).getD k 0).toNat : Int))
        rwa [bytesV_set, hSET.out] at this
      rcases (show k = 0 ∨ k = 1 ∨ k = 2 ∨ k = 3 ∨ k = 4 ∨ k = 5 ∨ k = 6 ∨ k = 7 by omega) with rfl | rfl | rfl | rfl | rfl | rfl | rfl | rfl
      all_goals
        go_wp2_with fail
        exact ⟨⟨_, (show _ + 1 ≤ 8 by omega), by go_num, HNX.out _ (by simp [head8] <;> omega), hC.out.other (by omega) _, hK.out.setCell (p := ⟨w.heap.size + 1, _, none⟩) (show w.heap.size ≤ w.heap.size + 1 by omega) _⟩, by simp [intOf]⟩
    · obtain rfl : k = 8 := by omega
      have hlen := hdL_length (m := s.size) (S := S) (k := 8) (by omega) (by omega)
      have HL := Lib.hid hlen
      clear hlen
      have HCP := Lib.hid (hd_copy (m := s.size) (S := S) HDL.out hS8)
      have HCP0 := Lib.hid (hd_copy0 (m := s.size) (S := S) HDL.out hS8)
      generalize hW : head8 s.size ++ s.data.toList ++ List.replicate (S - (8 + s.size)) 0 = W at *
      have HWL : Hid (W.length = S) := by
        show _ = _
        rw [← hW, List.length_append, List.length_append, head8_length, List.length_replicate, HDL.out]; omega
      clear hW
      go_upto_region 7 with (fail)
      go_cut [] (fun wx => Hid (BlkAt wx (w.heap.size + 1) 5 ⟨bytesV W⟩) ∧ Hid (BlkAt wx w.heap.size 23 #[.int .i64 (K : Int), .int .i64 n]) ∧ Hid (Keeps w wx))
      case first =>
        have HFIN : Hid (∀ wx, BlkAt wx (w.heap.size + 1) 5 ⟨bytesV W⟩ → Chg (fun k => k = w.heap.size + 1) wr wx → BlkAt wx w.heap.size 23 #[.int .i64 (K : Int), .int .i64 n] ∧ Keeps w wx) := fun wx _ hc =>
          ⟨hC.out.chg hc (by omega), hK.out.then (chg_kept (B := w.heap.size) hc (fun q _ e => by omega) hK.out.size) (Nat.le_refl _)⟩
        by_cases h8 : S = 8
        · have HE := Lib.hid (HCP0.out h8)
          have h8t : (S = 8) = True := eq_true h8
          have hm0 : s.size ≤ S - 8 := by omega
          have hm1 : 0 + s.size ≤ S := by omega
          clear h8
          go_wp2_with (with_reducible refine wp_copy_text rfl (.tmp 32) (.tmp 33) rfl (w.heap.size + 1) 0 (S - 8) (S - 8) rfl s rfl (hdL s.size S 8) hB.out hm0 (by rw [HL.out]; exact hm1) ?_; intro w6 hb6 hc6; rw [HE.out] at hb6; have HB6 := Lib.hid hb6; have HF6 := Lib.hid (HFIN.out w6 hb6 hc6); clear hb6 hc6)
          go_meet
          exact ⟨HB6, HF6.out.1, HF6.out.2⟩
        · have h8t : (S = 8) = False := eq_false h8
          have hm0 : s.size ≤ S - 8 := by omega
          have hm1 : 8 + s.size ≤ S := by omega
          clear h8
          go_wp2_with (with_reducible refine wp_copy_text rfl (.tmp 32) (.tmp 33) rfl (w.heap.size + 1) 8 (S - 8) (S - 8) rfl s rfl (hdL s.size S 8) hB.out hm0 (by rw [HL.out]; exact hm1) ?_; intro w6 hb6 hc6; rw [HCP.out] at hb6; have HB6 := Lib.hid hb6; have HF6 := Lib.hid (HFIN.out w6 hb6 hc6); clear hb6 hc6)
          go_meet
          exact ⟨HB6, HF6.out.1, HF6.out.2⟩
      case rest =>
        obtain ⟨wx, rfl⟩ : ∃ wx : World, wx = wc := ⟨_, rfl⟩
        obtain ⟨HB, HC, HK⟩ := hcut
        clear hB hC hK HCP HCP0 HL
        have c0 : wx.cell? ⟨w.heap.size, 0, none⟩ = some (.int .i64 (K : Int)) := HC.out.cell rfl
        go_wp2_with fail
        clear c0
        go_loopw [9, 37] (fun v i wr => ∃ k : Nat, k ≤ K ∧ i = .int .i64 k ∧ Hid (OwnRows w.heap.size wr v ((List.range k).map (cutR sz W))) ∧ Hid (BlkAt wr (w.heap.size + 1) 5 ⟨bytesV W⟩) ∧ Hid (Keeps w wr)) (fun _ i _ => K - (intOf i).toNat)
        case atStart => exact ⟨0, by omega, rfl, OwnSeq.nil _ _ _ _, HB, HK⟩
        case round =>
          clear HB HC HK
          obtain ⟨k, hk, rfl, hR, hB, hKK⟩ := hrel
          by_cases hlt : k < K
          · obtain ⟨us, hu1, hu2, hu3⟩ := hR.out
            have hul : us.length = k := by rw [hu2]; simp
            obtain ⟨pv, qv, rfl⟩ := own_slice hu1
            have HU := Lib.hid hu1
            have HL2 := Lib.hid hu2
            have HL3 := Lib.hid hul
            have H3 := Lib.hid hu3
            have hlt64 : (k : Int) < (K : Int) := by omega
            have hk0 : (0 : Int) ≤ (k : Int) := by omega
            have hab : k * sz + sz ≤ S := by
              have h1 : (k + 1) * sz ≤ K * sz := Nat.mul_le_mul_right _ hlt
              rw [Nat.add_mul, Nat.mul_comm K, ← HS.out] at h1
              omega
            have HM1 : Hid (((k : Int) + 1) * (sz : Int) = ((k * sz + sz : Nat) : Int)) := by
              show _ = _
              rw [Int.add_mul, Int.natCast_add, Int.natCast_mul]; omega
            have HM0 : Hid ((k : Int) * (sz : Int) = ((k * sz : Nat) : Int)) := (Int.natCast_mul k sz).symm
            have hcut : cutR sz W k = (W.drop (k * sz)).take sz := rfl
            have hrow : RowIn (w.heap.size ≤ ·) wr.heap (.slice (some ⟨w.heap.size + 1, k * sz, none⟩) sz sz) (cutR sz W k) := by
              rw [hcut]; exact blk_row hB.out _ (Nat.le_succ _) (by rw [HWL.out]; exact hab) (by omega)
            have HROW := Lib.hid hrow
            have hsz1 := HP.out
            clear hu1 hu2 hu3 hul hcut hrow
            generalize k * sz = ka at *
            have hw1 : wrap64 ((k : Int) * (sz : Int)) = (ka : Int) := by rw [HM0.out]; exact IntWalk.wrap64_in _ (by omega)
            have hw2 : wrap64 (((k : Int) + 1) * (sz : Int)) = ((ka + sz : Nat) : Int) := by rw [HM1.out]; exact IntWalk.wrap64_in _ (by omega)
            obtain ⟨kb, hkb⟩ : ∃ kb, kb = ka + sz := ⟨_, rfl⟩
            rw [← hkb] at hw2
            have hb1 : ka ≤ kb := by omega
            have hb2 : kb ≤ S := by omega
            have hb3 : (kb = ka) = False := eq_false (by omega)
            have HBS : Hid (kb - ka = sz) := by show _ = _; omega
            have hszw := hKK.out.size
            clear hkb
            have HRW : Hid (RowIn (w.heap.size ≤ ·) wr.heap (.slice (some ⟨w.heap.size + 1, ka, none⟩) (kb - ka) (kb - ka)) (cutR sz W k)) := by rw [HBS.out]; exact HROW.out
            go_wp2_with (at_builtin; refine wp_app1 elRows rfl (.tmp 40) (.tmp 54) rfl w.heap.size (.slice pv us.length qv) us rfl (HU.out.alloc _) _ (.slice (some ⟨w.heap.size + 1, ka, none⟩) (kb - ka) (kb - ka)) rfl (World.cell?_alloc_new _ _ _ _) rfl (by have := HL3.out; omega) (by simp; omega) ?_; intro v' w6 hown hchg; have HP6 := Lib.hid (OwnRows.push (m := (List.range k).map (cutR sz W)) HL2.out H3.out (Kept.any (kal wr _)) (fun _ _ _ _ x => x) hown hchg (fun b hb => typH_chg (T := fun _ => False) (Kept.any (kal wr _)) (own_block HU.out b hb).2.2 (fun x => x)) (SeqIn.chg HRW.out (T := fun _ => False) (Kept.any (kal wr _)) (fun _ _ _ _ x => x) fun _ _ _ x => x)); have HB6 : Hid (BlkAt w6 (w.heap.size + 1) 5 ⟨bytesV W⟩) := (hB.out.keeps (kal wr _)).chg hchg (fun e => by have := (own_block HU.out _ e).2.2; rw [hB.out.typ] at this; cases this); have HK6 : Hid (Keeps w w6) := hKK.out.then (chg_kept (B := w.heap.size) (Chg.trans (Kept.any (kal wr _)) hchg) (fun q _ e => (own_block HU.out q e).1) hKK.out.size) (Nat.le_refl _); clear hown hchg)
            refine ⟨?_, by simp [intOf]; omega⟩
            (repeat apply Exists.intro)
            exact ⟨⟨k + 1, by omega, by go_num, by rw [List.range_succ, List.map_append]; exact HP6, HB6, HK6⟩, rfl⟩
          · obtain rfl : k = K := by omega
            go_wp2
            go_ret
            exact ⟨_, rfl, by rw [HD.out]; exact hR.out.mat (by simp; omega), hKK.out⟩
end Go.Proofs.YtllfhaocdknejaaDoor
