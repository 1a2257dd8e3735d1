/- The walks of path.Size and path.Kids. -/
import Derived.Test.YtdpfanifagfciaaDoorAbove
import Derived.Deep.Cut
import Derived.Deep.DrawnRows
namespace Go.Proofs.YtdpfanifagfciaaDoor
open Go.RowKit
attribute [local go_sem ↓] Go.wp_at_zero Go.wp_at_succ
theorem file_cell {w : World} {p : Option Addr} {n c : Nat} {l : List FileR} (s : FilesAt w.heap (.slice p n c) l) {i : Nat} (hi : i < l.length) : ∃ b off, p = some ⟨b, off, none⟩ ∧ n = l.length ∧
    w.cell? ⟨b, off + i * 3, none⟩ = some (.string (fAt l i).p) ∧ w.cell? ⟨b, off + i * 3 + 1, none⟩ = some (.bool (fAt l i).d) ∧ w.cell? ⟨b, off + i * 3 + 2, none⟩ = some (.string (fAt l i).t) := by
  obtain ⟨b, off, c', us, e, _, h2, h3⟩ := rec_cell s hi
  unfold IsFile at h3
  subst h3
  injection e with e1 e2 _
  rw [fAt_eq hi]
  exact ⟨b, off, e1, e2, h2 0 (by simp), h2 1 (by simp), h2 2 (by simp)⟩
theorem fileA_one (x : FileR) : (#[.string x.p, .bool x.d, .string x.t] : Array Value).all (·.oneCell') = true := by
  refine Array.all_eq_true_iff_forall_mem.2 fun v hv => ?_
  simp at hv
  rcases hv with rfl | rfl | rfl <;> rfl
theorem file_one (p t : ByteArray) (d : Bool) : (#[.string p, .bool d, .string t] : Array Value).all (·.oneCell') = true := fileA_one ⟨p, d, t⟩
theorem sizeF_take {l : List FileR} {k : Nat} (h : k < l.length) : sizeF (l.take (k + 1)) = sizeF (l.take k) + (fAt l k).t.size := by rw [take_fAt h, sizeF_snoc]
theorem sizeF_le (l : List FileR) : ∀ k, sizeF (l.take k) ≤ sizeF l := by
  induction l with
  | nil => intro k; simp [sizeF]
  | cons x l ih => intro k; cases k with
    | zero => simp [sizeF]
    | succ k => have := ih k; simp only [List.take_succ_cons, sizeF]; omega
theorem own_slice {w : World} {base : Nat} {E : TypeId} {v : Value} {n : Nat} {us : List Value} (h : w.ownsRow base E 1 v n us) : ∃ p q, v = .slice p n q := by
  rcases h.2 with ⟨rfl, hn⟩ | ⟨g, cap, cur, rfl, _⟩
  · exact ⟨none, 0, by rw [hn]⟩
  · exact ⟨_, _, rfl⟩
set_option maxRecDepth 100000 in
set_option maxHeartbeats 4000000 in
theorem size_any (v : Value) (l : List FileR) (w : World) (h : FilesAt w.heap v l) (hb : sizeF l ≤ 1000000000) : Calls Tryd.prog 31 #[v] w fun e w' => e = .returned (.int .i64 (sizeF l : Int)) ∧ Keeps w w' := by
  obtain ⟨p, q, rfl⟩ := rec_shape h
  have hl63 : l.length ≤ 9223372036854775807 := let ⟨_, _, _, x, _⟩ := h; x
  have H := Lib.hid h
  have HB := Lib.hid hb
  clear h hb
  go_enter Tryd.func31, Tryd.ntmps31
  go_wp2_with fail
  go_loopw [3, 8] (fun t i wr => ∃ k : Nat, k ≤ l.length ∧ i = .int .i64 k ∧ t = .int .i64 (sizeF (l.take k) : Int) ∧ Hid (Keeps w wr)) (fun _ i _ => l.length - (intOf i).toNat)
  case atStart => exact ⟨0, by omega, rfl, rfl, keeps_refl w⟩
  case round =>
    obtain ⟨k, hk, rfl, rfl, hK⟩ := hrel
    by_cases hlt : k < l.length
    · have hlt64 : (k : Int) < (l.length : Int) := by omega
      have hk0 : (0 : Int) ≤ (k : Int) := by omega
      obtain ⟨b, off, rfl, _, d0, d1, d2⟩ := file_cell (RecAt.keeps H.out hK.out) hlt
      have HX := Lib.hid (sizeF_take hlt)
      have h1 := sizeF_le l (k + 1)
      have h2 := HB.out
      rw [sizeF_take hlt] at h1
      have HON := Lib.hid (fileA_one (fAt l k))
      generalize (fAt l k).p = P at *
      generalize (fAt l k).d = D at *
      generalize (fAt l k).t = T at *
      generalize sizeF (l.take k) = t at *
      have hle : t + T.size ≤ 1000000000 := by omega
      clear h1 h2
      go_wp2_with (refine wpList_store_row rfl 47 (.tmp 5) (.tmp 11) rfl wr.heap.size #[.string P, .bool D, .string T] rfl rfl 47 _ (heap_alloc_last wr _) (by kernel_rfl) rfl HON.out ?_; rw [World.setRow_alloc_new])
      exact ⟨⟨k + 1, by omega, by go_num, by rw [HX.out]; go_num, hK.out.trans (kal _ _)⟩, by simp [intOf]; omega⟩
    · obtain rfl : k = l.length := by omega
      go_wp2_with fail
      go_ret
      refine ⟨?_, hK.out⟩
      show Ending.returned (.int .i64 (sizeF (l.take l.length) : Int)) = _
      rw [List.take_length]
def Frozen (P : Prop) : Prop := P
theorem frz {P : Prop} (h : Frozen P) : P := h
theorem cell_chg {T : Nat → Prop} {w w' : World} {b i : Nat} {v : Value} (h : Chg T w w') (c : w.cell? ⟨b, i, none⟩ = some v) (hn : ¬ T b) : w'.cell? ⟨b, i, none⟩ = some v := by
  rw [cell_of] at c ⊢
  exact cellH_chg h c hn
theorem cell_al1 (w : World) (o : Obj) (v : Value) (t : TypeId) : ((w.alloc o).alloc (.cells #[v] t)).cell? ⟨w.heap.size + 1, 0, none⟩ = some v := by
  have := World.cell?_alloc_new (w.alloc o) #[v] t 0
  rw [World.size_alloc] at this; exact this
/-- No text of them is great. -/
def SmallF (l : List FileR) : Prop := ∀ k, k < l.length → (fAt l k).p.size ≤ 100000 ∧ (fAt l k).t.size ≤ 100000
def GiveInts (w : World) (l : List Int) (e : Ending) (w' : World) : Prop := ∃ v, e = .returned v ∧ SeqIn (w.heap.size ≤ ·) 3 IsInt w'.heap v l ∧ Keeps w w'
theorem empty_facts {d : ByteArray} (h : d.size = 0) : (d.toList == []) = true ∧ d.toList.isEmpty = true := by
  rw [empty_of h]
  have e : ByteArray.empty.toList = [] := by rw [toList_eq]; rfl
  rw [e]; exact ⟨rfl, rfl⟩
theorem full_facts {d : ByteArray} (h : d.size ≠ 0) : (d.toList == []) = false ∧ d.toList.isEmpty = false := by
  have hl : d.toList ≠ [] := fun e => by
    have := congrArg List.length e
    rw [toList_eq, data_size] at this
    exact h this
  exact ⟨beq_eq_false_iff_ne.2 hl, List.isEmpty_eq_false_iff.2 hl⟩
set_option maxRecDepth 100000 in
set_option maxHeartbeats 8000000 in
theorem kids_any (v : Value) (l : List FileR) (dir : ByteArray) (w : World) (h : FilesAt w.heap v l) (hs : SmallF l) (hl : l.length ≤ 100000) : Calls Tryd.prog 30 #[v, .string dir] w (GiveInts w (kidsF l dir l.length)) := by
  obtain ⟨p, q, rfl⟩ := rec_shape h
  have H := Lib.hid h
  have HS := Lib.hid hs
  clear h hs
  go_enter Tryd.func30, Tryd.ntmps30
  go_wp2_with fail
  go_loopw [5, 12] (fun t i wr => ∃ k : Nat, k ≤ l.length ∧ i = .int .i64 k ∧ Hid (OwnSeq w.heap.size 3 IsInt wr t (kidsF l dir k)) ∧ Hid (Keeps w wr)) (fun _ i _ => l.length - (intOf i).toNat)
  case atStart => exact ⟨0, by omega, rfl, by exact OwnSeq.nil _ _ _ _, keeps_refl w⟩
  case round =>
    obtain ⟨k, hk, rfl, hR, hK⟩ := hrel
    by_cases hlt : k < l.length
    · have hlt64 : (k : Int) < (l.length : Int) := by omega
      have hk0 : (0 : Int) ≤ (k : Int) := by omega
      obtain ⟨b, off, rfl, _, d0, d1, d2⟩ := file_cell (RecAt.keeps H.out hK.out) hlt
      obtain ⟨us, hu1, hu2, hu3⟩ := hR.out
      have hul : us.length ≤ k := by rw [hu2]; exact kidsF_len _ _ _
      obtain ⟨pv, qv, rfl⟩ := own_slice hu1
      have HU := Lib.hid hu1
      have HL2 := Lib.hid hu2
      have HL3 := Lib.hid hul
      have H3 := Lib.hid hu3
      have HX := Lib.hid (kidsF_succ l dir k)
      have HPS := Lib.hid (HS.out k hlt).1
      have HON := Lib.hid (fileA_one (fAt l k))
      have HAB := Lib.hid (fun wx => above_any (fAt l k).p wx (by have := HPS.out; omega))
      have HKD : Hid (kidB dir (fAt l k) = (((upT (fAt l k).p).toList == dir.toList) && (upIs (fAt l k).p == decide (dir.size ≠ 0)))) := by
        show _ = _; unfold kidB; rw [txt_eq]
      have hsz := hK.out.size
      clear hu1 hu2 hul hu3 hR
      generalize kidB dir (fAt l k) = kb at *
      generalize upT (fAt l k).p = U at *
      generalize upIs (fAt l k).p = I at *
      generalize (fAt l k).p = P at *
      generalize (fAt l k).d = D at *
      generalize (fAt l k).t = T at *
      go_wp2_with (refine wpList_store_row rfl 47 (.tmp 7) (.tmp 16) rfl wr.heap.size #[.string P, .bool D, .string T] rfl rfl 47 _ (heap_alloc_last wr _) (by kernel_rfl) rfl HON.out ?_; rw [World.setRow_alloc_new])
      refine Calls.mono (HAB.out _) ?_
      rintro e w2 ⟨rfl, rfl⟩
      have HK2 : Hid (Keeps w (wr.alloc (.cells #[.string P, .bool D, .string T] 47))) := hK.out.trans (kal _ _)
      cases hc : (U.toList == dir.toList) with
      | false =>
        have HX2 : Hid (kidsF l dir (k + 1) = kidsF l dir k) := by show _ = _; rw [HX.out, HKD.out, hc]; rfl
        have HP2 := Lib.hid (OwnSeq.chg (T := fun _ => False) (⟨us, HU.out, HL2.out, H3.out⟩ : OwnSeq w.heap.size 3 IsInt wr _ (kidsF l dir k)) (Kept.any (kal wr (.cells #[.string P, .bool D, .string T] 47))) (fun _ _ x => x) (fun _ _ _ x => x))
        clear HX HKD
        go_wp2_with fail
        exact ⟨⟨k + 1, by omega, by go_num, by rw [HX2.out]; exact HP2, HK2⟩, by simp [intOf]; omega⟩
      | true =>
        by_cases hd : dir.size = 0
        · obtain ⟨g1, g2⟩ := empty_facts hd
          cases I with
          | true =>
            have HX2 : Hid (kidsF l dir (k + 1) = kidsF l dir k) := by show _ = _; rw [HX.out, HKD.out, hc, decide_eq_false (by omega)]; rfl
            have HP2 := Lib.hid (OwnSeq.chg (T := fun _ => False) (⟨us, HU.out, HL2.out, H3.out⟩ : OwnSeq w.heap.size 3 IsInt wr _ (kidsF l dir k)) (Kept.any (kal wr (.cells #[.string P, .bool D, .string T] 47))) (fun _ _ x => x) (fun _ _ _ x => x))
            clear HX HKD hd
            go_wp2_with fail
            exact ⟨⟨k + 1, by omega, by go_num, by rw [HX2.out]; exact HP2, HK2⟩, by simp [intOf]; omega⟩
          | false =>
            have HX2 : Hid (kidsF l dir (k + 1) = kidsF l dir k ++ [(k : Int)]) := by show _ = _; rw [HX.out, HKD.out, hc, decide_eq_false (by omega)]; rfl
            clear HX HKD hd
            go_wp2_with (at_builtin; refine wp_app1 elInt rfl (.tmp 32) (.tmp 34) rfl w.heap.size (.slice pv us.length qv) us rfl ((HU.out.alloc _).alloc _) _ (.int .i64 (k : Int)) rfl (cell_al1 _ _ _ _) rfl (by have := HL3.out; omega) (by simp; omega) ?_; intro v' w6 hown hchg; have HP6 := Lib.hid (OwnSeq.push (R := IsInt) (R' := IsInt) (l := kidsF l dir k) HL2.out H3.out hown (fun _ _ _ x => x) rfl); have HK6 : Hid (Keeps w w6) := HK2.out.then (chg_kept (B := w.heap.size) (Chg.trans (Kept.any (kal _ _)) hchg) (fun q _ e => (own_block HU.out q e).1) HK2.out.size) (Nat.le_refl _); clear hown hchg)
            exact ⟨⟨k + 1, by omega, by go_num, by rw [HX2.out]; exact HP6, HK6⟩, by simp [intOf]; omega⟩
        · obtain ⟨g1, g2⟩ := full_facts hd
          cases I with
          | false =>
            have HX2 : Hid (kidsF l dir (k + 1) = kidsF l dir k) := by show _ = _; rw [HX.out, HKD.out, hc, decide_eq_true (by omega)]; rfl
            have HP2 := Lib.hid (OwnSeq.chg (T := fun _ => False) (⟨us, HU.out, HL2.out, H3.out⟩ : OwnSeq w.heap.size 3 IsInt wr _ (kidsF l dir k)) (Kept.any (kal wr (.cells #[.string P, .bool D, .string T] 47))) (fun _ _ x => x) (fun _ _ _ x => x))
            clear HX HKD hd
            go_wp2_with fail
            exact ⟨⟨k + 1, by omega, by go_num, by rw [HX2.out]; exact HP2, HK2⟩, by simp [intOf]; omega⟩
          | true =>
            have HX2 : Hid (kidsF l dir (k + 1) = kidsF l dir k ++ [(k : Int)]) := by show _ = _; rw [HX.out, HKD.out, hc, decide_eq_true (by omega)]; rfl
            clear HX HKD hd
            go_wp2_with (at_builtin; refine wp_app1 elInt rfl (.tmp 32) (.tmp 34) rfl w.heap.size (.slice pv us.length qv) us rfl ((HU.out.alloc _).alloc _) _ (.int .i64 (k : Int)) rfl (cell_al1 _ _ _ _) rfl (by have := HL3.out; omega) (by simp; omega) ?_; intro v' w6 hown hchg; have HP6 := Lib.hid (OwnSeq.push (R := IsInt) (R' := IsInt) (l := kidsF l dir k) HL2.out H3.out hown (fun _ _ _ x => x) rfl); have HK6 : Hid (Keeps w w6) := HK2.out.then (chg_kept (B := w.heap.size) (Chg.trans (Kept.any (kal _ _)) hchg) (fun q _ e => (own_block HU.out q e).1) HK2.out.size) (Nat.le_refl _); clear hown hchg)
            exact ⟨⟨k + 1, by omega, by go_num, by rw [HX2.out]; exact HP6, HK6⟩, by simp [intOf]; omega⟩
    · obtain rfl : k = l.length := by omega
      go_wp2_with fail
      go_ret
      exact ⟨_, rfl, hR.out.seq (by have := kidsF_len l dir l.length; omega), hK.out⟩
end Go.Proofs.YtdpfanifagfciaaDoor
