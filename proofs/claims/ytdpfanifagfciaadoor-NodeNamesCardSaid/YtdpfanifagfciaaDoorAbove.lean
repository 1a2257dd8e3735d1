/- The walks of path.Above and path.Steps. -/
import Derived.Test.YtdpfanifagfciaaDoorTreeM
import Derived.Test.YtdpfanifagfciaaDoorShelf
import Derived.Lib.LastIndexByte
namespace Go.Proofs.YtdpfanifagfciaaDoor
open Go.RowKit
theorem up_at {p : List UInt8} {i : Nat} (hi : i < p.length) (h : p[i] = 47) (hno : ∀ j (hj : j < p.length), i < j → p[j] ≠ 47) : upP p = some (p.take i) := by
  have e : p = p.take i ++ 47 :: p.drop (i + 1) := by
    rw [← h, ← List.drop_eq_getElem_cons hi, List.take_append_drop]
  have hn : 47 ∉ p.drop (i + 1) := by
    intro hm
    obtain ⟨j, hj, e2⟩ := List.getElem_of_mem hm
    rw [List.getElem_drop] at e2
    exact hno _ (by rw [List.length_drop] at hj; omega) (by omega) e2
  conv => lhs; rw [e]
  exact upP_cat _ hn
theorem up_no {p : List UInt8} (hno : ∀ j (hj : j < p.length), p[j] ≠ 47) : upP p = none := upP_none.2 fun hm => by
  obtain ⟨j, hj, e2⟩ := List.getElem_of_mem hm
  exact hno j hj e2
theorem last_up (p : ByteArray) : (Lib.lastIndexByte p 47 = -1 ∧ upP p.data.toList = none) ∨ ∃ i : Nat, Lib.lastIndexByte p 47 = (i : Int) ∧ i < p.size ∧ upP p.data.toList = some (p.data.toList.take i) := by
  have hb : ∀ j (hj : j < p.data.toList.length), p.data[j]! = p.data.toList[j] := fun j hj => by
    rw [getElem!_pos p.data j (by rwa [Array.length_toList] at hj)]; rfl
  have hz : p.data.toList.length = p.size := data_size p
  have h47 : ∀ c : UInt8, c = 47 → (c.toNat : Int) = 47 := fun c h => by rw [h]; rfl
  rcases Lib.lastIdx_spec p 47 p.size with ⟨h1, h2⟩ | ⟨i, h0, h1, h2, h3⟩
  · refine .inl ⟨h1, up_no fun j hj e => h2 j (by omega) ?_⟩
    rw [hb j hj]; exact h47 _ e
  · refine .inr ⟨i, h1, h0, up_at (by omega) ?_ fun j hj hij e => h3 j hij (by omega) ?_⟩
    · rw [hb i (by omega)] at h2
      exact UInt8.toNat_inj.1 (show _ = 47 by omega)
    · rw [hb j hj]; exact h47 _ e
set_option maxRecDepth 100000 in
set_option maxHeartbeats 1000000 in
theorem above_any (p : ByteArray) (w : World) (hs : p.size ≤ 1000000) : Calls Tryd.prog 28 #[.string p] w fun e w' => e = .returned (.tuple #[.string (upT p), .bool (upIs p)]) ∧ w' = w := by
  have HU := Lib.hid (last_up p)
  go_enter Tryd.func28, Tryd.ntmps28
  go_wp2_with fail
  refine Calls.mono (Sh.strings_LastIndexByte p 47 (by omega) _) ?_
  rintro e w' ⟨rfl, rfl⟩
  rcases HU.out with ⟨h1, h2⟩ | ⟨i, h1, h0, h2⟩
  · have HE : Hid (upT p = ByteArray.empty ∧ upIs p = false) := upT_none h2
    rw [h1]
    clear h1 h2 HU
    go_wp2
    go_ret2
    rw [HE.out.1, HE.out.2]
    exact ⟨rfl, rfl⟩
  · have HE : Hid (upT p = p.extract 0 i ∧ upIs p = true) := by
      have := upT_some h2
      rw [← ext_take] at this
      exact this
    rw [h1]
    have i1 : ¬ (i : Int) < 0 := by omega
    have i2 : (i : Int) ≤ (p.size : Int) := by omega
    have i3 : ((i : Int)).toNat = i := by omega
    clear h1 h2 HU
    go_wp2
    go_ret2
    rw [HE.out.1, HE.out.2]
    exact ⟨rfl, rfl⟩
theorem split_cut : ∀ (k : Nat) (l : List UInt8), Lib.count l [47] = k → Lib.splitK [47] 0 k l = cutP l
  | 0, l, h => by
    have hi : Lib.indexByte l 47 = -1 := by
      rcases idx_cases l with e | ⟨i, e⟩
      · exact e
      · rw [Lib.count_one] at h
        have := Lib.indexByte_some e
        have hm : (47 : UInt8) ∈ l := List.mem_of_getElem? this.1
        rw [List.count_eq_zero] at h
        exact absurd hm h
    rw [cutP_none hi]; rfl
  | k + 1, l, h => by
    unfold Lib.splitK
    rw [Lib.index_one]
    rcases idx_cases l with e | ⟨i, e⟩
    · rw [cutP_none e, e]; rfl
    · obtain ⟨h1, h2⟩ := cutP_some e
      have hne : ¬ ((i : Int) == -1) = true := by simp
      rw [e, h2, if_neg hne]
      have h3 : Lib.count (l.drop (i + 1)) [47] = k := by
        rw [Lib.count_one] at h ⊢
        obtain ⟨e1, e2⟩ := Lib.indexByte_some e
        have e3 : l = l.take i ++ 47 :: l.drop (i + 1) := by
          have hg : l[i] = 47 := by rw [List.getElem?_eq_getElem h1] at e1; exact Option.some.inj e1
          rw [← hg, ← List.drop_eq_getElem_cons h1, List.take_append_drop]
        have e4 : (l.take i).count 47 = 0 := by
          rw [List.count_eq_zero]
          intro hm
          obtain ⟨j, hj, e5⟩ := List.getElem_of_mem hm
          rw [List.length_take] at hj
          rw [List.getElem_take] at e5
          exact e2 j (by omega) (by rw [List.getElem?_eq_getElem (by omega), e5])
        rw [e3, List.count_append, e4, List.count_cons_self] at h
        omega
      rw [show ((i : Int).toNat + [(47 : UInt8)].length) = i + 1 from by simp, split_cut k _ h3]
      simp
theorem splitB_cut (p : ByteArray) : Lib.splitB ⟨#[47]⟩ 0 (Lib.countB p ⟨#[47]⟩) p = (splitP p.data.toList).map strB := by
  have h1 := Lib.splitB_data ⟨#[47]⟩ 0 (Lib.countB p ⟨#[47]⟩) p
  have h2 := split_cut (Lib.countB p ⟨#[47]⟩) p.data.toList rfl
  rw [show (⟨#[47]⟩ : ByteArray).data.toList = [47] from rfl, h2, cut_split] at h1
  rw [← h1, List.map_map]
  have : (strB ∘ fun x : ByteArray => x.data.toList) = id := by funext x; exact strB_data x
  rw [this, List.map_id]
set_option maxRecDepth 100000 in
set_option maxHeartbeats 1000000 in
theorem split_any (p : ByteArray) (w : World) (hs : p.size ≤ 1000000) : Calls Tryd.prog 59 #[.string p, .string ⟨#[47]⟩] w fun e w' =>
    e = .returned (.slice (some ⟨w.heap.size, 0, none⟩) (splitP p.data.toList).length (splitP p.data.toList).length) ∧ w' = w.alloc (.cells (((splitP p.data.toList).map strB).map Value.string).toArray 9) := by
  have hle := Lib.countB_le ⟨#[47]⟩ (by decide) p.size p (Nat.le_refl _)
  have hlen := Lib.splitB_all ⟨#[47]⟩ (by decide) 0 _ p rfl
  have c := Any.strings_genSplit_core Sh.lays221 (by kernel_rfl) p ⟨#[47]⟩ 0 (-1) (Lib.countB p ⟨#[47]⟩ + 1) w (by omega) (by decide) (Nat.zero_le _)
    (fun x c _ => (Sh.strings_Index_one x 47 _).mono fun e w' h => ⟨by rw [h.1]; unfold Lib.indexB; rw [show (⟨#[47]⟩ : ByteArray).data.toList = [47] from rfl, Lib.index_one], h.2⟩)
    ((Sh.strings_Count_one p 47 w).mono fun e w' h => ⟨by rw [h.1]; show _ = Ending.returned (Value.int .i64 ((Lib.count p.data.toList [47] : Nat) : Int)); rw [Lib.count_one]; rfl, h.2⟩)
    (by decide) (by decide) (by rw [if_pos (by decide)]; omega)
  rw [Nat.add_sub_cancel, hlen] at c
  have e2 : Lib.cellsOf (Lib.splitB ⟨#[47]⟩ 0 (Lib.countB p ⟨#[47]⟩) p) (Lib.countB p ⟨#[47]⟩ + 1) = ((Lib.splitB ⟨#[47]⟩ 0 (Lib.countB p ⟨#[47]⟩) p).map Value.string).toArray := by rw [← hlen]; exact Lib.cellsOf_full _
  rw [e2, splitB_cut] at c
  have e3 : Lib.countB p ⟨#[47]⟩ + 1 = (splitP p.data.toList).length := by rw [← hlen, splitB_cut, List.length_map]
  rw [e3] at c
  have C := Lib.hid c
  clear c e2 hlen hle e3
  go_enter Tryd.func59, Tryd.ntmps59
  go_wp2_with fail
  refine Calls.mono C.out ?_
  rintro e w' ⟨rfl, rfl⟩
  go_wp2
  go_ret
  exact ⟨rfl, by rw [List.map_map]; rfl⟩
/-- What Steps tells: the steps, in new memory. -/
def GiveTexts (w : World) (l : List ByteArray) (e : Ending) (w' : World) : Prop := ∃ v, e = .returned v ∧ SeqIn (w.heap.size ≤ ·) 9 IsText w'.heap v l ∧ Keeps w w'
theorem textsIn_lit (w : World) (r : List ByteArray) (n c : Nat) (hn : r.length = n) (h63 : n ≤ 9223372036854775807) : SeqIn (w.heap.size ≤ ·) 9 IsText (w.alloc (.cells (r.map Value.string).toArray 9)).heap (.slice (some ⟨w.heap.size, 0, none⟩) n c) r := by
  subst hn
  refine ⟨_, c, rfl, h63, fun i hi => ⟨w.heap.size, 0, .string r[i], rfl, ⟨Nat.le_refl _, typH_new _ _ _⟩, ?_, ?_, rfl⟩⟩
  · rw [← froz_of]
    unfold World.frozen?
    rw [heap_alloc_new]
    simp
  · rw [← cell_of, World.cell?_alloc_new, Nat.zero_add]
    simp [hi]
set_option maxRecDepth 100000 in
set_option maxHeartbeats 1000000 in
theorem steps_any (p : ByteArray) (w : World) (hs : p.size ≤ 1000000) : Calls Tryd.prog 29 #[.string p] w (GiveTexts w (stepsT p)) := by
  by_cases h0 : p.size = 0
  · have HS : Hid (stepsT p = []) := by show _ = _; unfold stepsT; rw [if_pos h0]
    obtain rfl := empty_of h0
    go_enter Tryd.func29, Tryd.ntmps29
    go_wp2
    go_ret
    exact ⟨_, rfl, by rw [HS.out]; exact SeqIn.nil _ _ _ _, keeps_refl _⟩
  · have HS : Hid (stepsT p = (splitP p.data.toList).map strB) := by show _ = _; unfold stepsT; rw [if_neg h0]
    have hn : (p.toList == []) = false := by
      rw [toList_eq, beq_eq_false_iff_ne]
      intro e
      rw [← data_size, e] at h0
      exact h0 rfl
    have hn2 : p.toList.isEmpty = false := by
      rw [List.isEmpty_eq_false_iff]; intro e; rw [e] at hn; simp at hn
    have HL := Lib.hid (split_len p.data.toList)
    rw [data_size] at HL
    have HC := Lib.hid (split_any p w hs)
    clear h0
    go_enter Tryd.func29, Tryd.ntmps29
    go_wp2_with fail
    refine Calls.mono HC.out ?_
    rintro e w' ⟨rfl, rfl⟩
    go_wp2
    go_ret
    have HT := textsIn_lit w ((splitP p.data.toList).map strB) (splitP p.data.toList).length (splitP p.data.toList).length (List.length_map _) (by have := HL.out; omega)
    rw [List.map_map] at HT
    exact ⟨_, rfl, by rw [HS.out]; exact HT, kal _ _⟩
end Go.Proofs.YtdpfanifagfciaaDoor
