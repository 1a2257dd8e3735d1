/- The walks of the matrices' reference: MayCode, Of. -/
import Derived.Test.YtllfhaocdknejaaDoorMatOf
import Derived.Test.YtllfhaocdknejaaDoorApp
import Derived.Test.YtllfhaocdknejaaDoorRef02
namespace Go.Proofs.YtllfhaocdknejaaDoor
open Go.RowKit

theorem elRows : ElemTy Tryd.prog 48 39 (.slice none 0 0) 24 := ⟨Tryd.underlying48, by kernel_rfl, rfl, by decide⟩
theorem elRow : ElemTy Tryd.prog 39 5 (.int .u8 0) 1 := ⟨Tryd.underlying39, by kernel_rfl, rfl, by decide⟩

set_option maxHeartbeats 1000000 in
theorem refmaycode_any (k n : Int) (w : World) :
    Calls Tryd.prog 17 #[.agg #[.int .i64 k, .int .i64 n]] w fun e w' => e = .returned (.bool (codeB k n)) ∧ Keeps w w' := by
  cases hb : codeB k n with
  | true =>
    obtain ⟨h1, h2, h3⟩ := codeB_true.1 hb
    have h4 : n < 13 := by omega
    go_enter Tryd.func17, Tryd.ntmps17
    go_wp2
    go_ret
    exact ⟨rfl, (Kept.refl _ _).alloc (Nat.le_refl _) _⟩
  | false =>
    have h := codeB_false.1 hb
    by_cases h1 : 1 ≤ k
    · by_cases h2 : k ≤ n
      · have h3 : ¬ n < 13 := by omega
        clear h hb
        go_enter Tryd.func17, Tryd.ntmps17
        go_wp2
        go_ret
        exact ⟨rfl, (Kept.refl _ _).alloc (Nat.le_refl _) _⟩
      · clear h hb
        go_enter Tryd.func17, Tryd.ntmps17
        go_wp2
        go_ret
        exact ⟨rfl, (Kept.refl _ _).alloc (Nat.le_refl _) _⟩
    · clear h hb
      go_enter Tryd.func17, Tryd.ntmps17
      go_wp2
      go_ret
      exact ⟨rfl, (Kept.refl _ _).alloc (Nat.le_refl _) _⟩

/-- A slice of rows in blocks from B on. -/
abbrev OwnRows (B : Nat) (w : World) (v : Value) (m : List (List UInt8)) : Prop := OwnSeq B 39 (RowIn (B ≤ ·) w.heap) w v m
theorem OwnRows.mat {B : Nat} {w : World} {v : Value} {m : List (List UInt8)} (h : OwnRows B w v m) (hl : m.length ≤ 4096) : MatIn (B ≤ ·) w.heap v m := OwnSeq.seq h (by omega)
/-- One row more, appended. -/
theorem OwnRows.push {B : Nat} {wr w0 w' : World} {v v' : Value} {m : List (List UInt8)} {us : List Value} {u : Value} {r : List UInt8} {T : Nat → Prop}
    (h1 : us.length = m.length) (h2 : ∀ i (h : i < us.length) (h' : i < m.length), RowIn (B ≤ ·) wr.heap us[i] m[i])
    (c0 : Chg T wr w0) (hT : ∀ b, b < wr.heap.size → B ≤ b → typH wr.heap b = some 5 → ¬ T b)
    (h3 : w'.ownsRow B 39 1 v' (us.length + 1) (us ++ [u])) (c : Chg (fun k => v.ownBlock = some k) w0 w') (hv : ∀ k, v.ownBlock = some k → typH w0.heap k = some 39) (hr : RowIn (B ≤ ·) w0.heap u r) :
    OwnRows B w' v' (m ++ [r]) := by
  have key : ∀ x y, RowIn (B ≤ ·) w0.heap x y → RowIn (B ≤ ·) w'.heap x y := fun x y hxy =>
    SeqIn.chg hxy c (fun b _ _ ht hk => by have := hv b hk; rw [ht] at this; cases this) fun _ _ _ x => x
  exact OwnSeq.push (R := RowIn (B ≤ ·) wr.heap) (R' := RowIn (B ≤ ·) w'.heap) h1 h2 h3 (fun x y _ hxy => key x y (SeqIn.chg hxy c0 hT fun _ _ _ x => x)) (key _ _ hr)

/-- Block b holds a row: the first k numbers are g's, the others 0. -/
def Fill (b k cols : Nat) (g : Nat → UInt8) (h : Array Obj) : Prop :=
  typH h b = some 5 ∧ ∀ j, j < cols → frozH h b j = false ∧ cellH h b j = some (.int .u8 ((if j < k then g j else 0 : UInt8).toNat : Int))
theorem Fill.zero (w : World) (cols : Nat) (g : Nat → UInt8) : Fill w.heap.size 0 cols g (w.alloc (.cells (reps cols (.int .u8 0)) 5)).heap :=
  ⟨typH_new _ _ _, fun j hj => ⟨(reps_cell w cols _ _ j hj).2, (reps_cell w cols _ _ j hj).1⟩⟩
theorem Fill.next {w : World} {b k cols : Nat} {g : Nat → UInt8} (h : Fill b k cols g w.heap) (hk : k < cols) : Fill b (k + 1) cols g (w.setCell ⟨b, k, none⟩ (.int .u8 ((g k).toNat : Int))).heap := by
  refine ⟨by rw [typH_set]; exact h.1, fun j hj => ⟨by rw [frozH_set]; exact (h.2 j hj).1, ?_⟩⟩
  rw [cellH_set _ _ _ _ _ _ _ (h.2 k hk).2]
  by_cases e : k = j
  · subst e; rw [if_pos ⟨rfl, rfl⟩, if_pos (by omega)]
  · rw [if_neg (fun x => e x.2), (h.2 j hj).2]
    by_cases e2 : j < k
    · rw [if_pos e2, if_pos (by omega)]
    · rw [if_neg e2, if_neg (by omega)]
theorem Fill.skip {h : Array Obj} {b k cols : Nat} {g : Nat → UInt8} (f : Fill b k cols g h) (hk : g k = 0) : Fill b (k + 1) cols g h := by
  refine ⟨f.1, fun j hj => ⟨(f.2 j hj).1, ?_⟩⟩
  rw [(f.2 j hj).2]
  by_cases e2 : j < k
  · rw [if_pos e2, if_pos (by omega)]
  · by_cases e : j = k
    · subst e; rw [if_neg (by omega), if_pos (by omega), hk]
    · rw [if_neg e2, if_neg (by omega)]
theorem Fill.row {h : Array Obj} {b cols : Nat} {g : Nat → UInt8} (f : Fill b cols cols g h) (hc : cols ≤ 4096) (S : Nat → Prop) (hb : S b) : RowIn S h (.slice (some ⟨b, 0, none⟩) cols cols) ((List.range cols).map g) := by
  refine ⟨some ⟨b, 0, none⟩, cols, by rw [List.length_map, List.length_range], by rw [List.length_map, List.length_range]; omega, fun i hi => ?_⟩
  rw [List.length_map, List.length_range] at hi
  have := (f.2 i hi).2
  rw [if_pos hi] at this
  refine ⟨b, 0, _, rfl, ⟨hb, f.1⟩, by rw [Nat.zero_add]; exact (f.2 i hi).1, by rw [Nat.zero_add]; exact this, ?_⟩
  rw [List.getElem_map, List.getElem_range]; rfl
theorem Fill.chg {w w' : World} {b k cols : Nat} {g : Nat → UInt8} {T : Nat → Prop} (h : Fill b k cols g w.heap) (c : Chg T w w') (ht : ¬ T b) : Fill b k cols g w'.heap :=
  ⟨typH_chg c h.1 ht, fun i hi => ⟨by rw [frozH_chg c (typH_lt h.1) ht]; exact (h.2 i hi).1, cellH_chg c (h.2 i hi).2 ht⟩⟩

set_option maxRecDepth 100000 in
set_option maxHeartbeats 2000000 in
theorem refof_any (k n : Int) (w : World) : Calls Tryd.prog 18 #[.agg #[.int .i64 k, .int .i64 n]] w (GiveMat w (ofM k n)) := by
  cases hb : codeB k n with
  | true =>
    have h := codeB_true.1 hb
    have e : ofM k n = (matOf n.toNat k.toNat (codeAt k.toNat), 0) := by unfold ofM; rw [hb]; rfl
    rw [e]
    clear e
    have HB := Lib.hid hb
    clear hb
    obtain ⟨K, rfl⟩ := Int.eq_ofNat_of_zero_le (show 0 ≤ k by omega)
    obtain ⟨N, rfl⟩ := Int.eq_ofNat_of_zero_le (show 0 ≤ n by omega)
    obtain ⟨h1, h2, h3⟩ := h
    have hN : N ≤ 12 := by omega
    have hKN : K ≤ N := by omega
    have hm := mk_row K (by omega)
    go_enter Tryd.func18, Tryd.ntmps18
    go_wp2_with fail
    refine Calls.mono (refmaycode_any _ _ _) ?_
    rintro e w1 ⟨rfl, hk1⟩
    rw [HB.out]
    have c0 : w1.cell? ⟨w.heap.size, 0, none⟩ = some (.int .i64 (K : Int)) := keeps_cell hk1 (World.cell?_alloc_new _ _ _ _)
    have c1 : w1.cell? ⟨w.heap.size, 1, none⟩ = some (.int .i64 (N : Int)) := keeps_cell hk1 (World.cell?_alloc_new _ _ _ _)
    have hka : Keeps w w1 := ((Kept.refl _ w).alloc (Nat.le_refl _) _).call hk1 (Nat.le_refl _)
    go_wp2
    go_loopw [4, 5] (fun v i wr => ∃ k : Nat, k ≤ N ∧ i = .int .i64 k ∧ OwnRows w1.heap.size wr v (matOf k K (codeAt K)) ∧ Keeps w1 wr) (fun _ i _ => N - (intOf i).toNat)
    case atStart => exact ⟨0, by omega, rfl, OwnSeq.nil _ _ _ _, keeps_refl w1⟩
    case round =>
      obtain ⟨k, hk, rfl, hR, hK⟩ := hrel
      obtain ⟨wo, rfl⟩ : ∃ wo : World, wo = wr := ⟨_, rfl⟩
      have d0 := keeps_cell hK c0
      have d1 := keeps_cell hK c1
      have hlt0 := cell_lt d0
      by_cases hlt : k < N
      · obtain ⟨us, hu1, hu2, hu3⟩ := hR
        have hul : us.length = k := by rw [hu2]; simp [matOf]
        have HU := Lib.hid hu1
        have HL := Lib.hid hu2
        have HL2 := Lib.hid hul
        have H3 := Lib.hid hu3
        clear hu1 hu2 hul hu3
        go_wp2_with fail
        clear hm
        go_loopw [7] (fun i wi => ∃ j : Nat, j ≤ K ∧ i = .int .i64 j ∧ Hid (Fill wo.heap.size j K (codeAt K k) wi.heap) ∧ Hid (Chg (fun x => x = wo.heap.size) (wo.alloc (.cells (reps K (.int .u8 0)) 5)) wi)) (fun i _ => K - (intOf i).toNat)
        case atStart => exact ⟨0, by omega, rfl, Fill.zero wo K _, Chg.refl _ _⟩
        case round =>
          obtain ⟨j, hj, rfl, hf, hc⟩ := hrel
          have hn : wo.heap.size < wr.heap.size := by have := hc.out.size; rw [World.size_alloc] at this; omega
          have hcw : Hid (Chg (fun x => x = wo.heap.size) wo wr) := ((Chg.refl _ wo).alloc _).trans hc.out
          have e0 : wr.cell? ⟨w.heap.size, 0, none⟩ = some (.int .i64 (K : Int)) := by rw [cell_of] at d0 ⊢; exact cellH_chg hcw.out d0 (by omega)
          have e1 : wr.cell? ⟨w.heap.size, 1, none⟩ = some (.int .i64 (N : Int)) := by rw [cell_of] at d1 ⊢; exact cellH_chg hcw.out d1 (by omega)
          by_cases hjl : j < K
          · have f1 := (hf.out.2 j hjl).1
            have g1 := (hf.out.2 j hjl).2
            rw [← froz_of] at f1
            rw [← cell_of] at g1
            by_cases hik : k < K
            · by_cases hij : k = j
              · subst hij
                have he : Hid (codeAt K k k = 1) := by show _ = _; unfold codeAt oneAt; rw [if_pos hik, if_pos rfl]
                go_wp2_with fail
                exact ⟨⟨k + 1, by omega, rfl, by have := hf.out.next hjl; rw [he.out] at this; exact this, hc.out.setCell (fun _ => rfl) _⟩, by simp [intOf]; omega⟩
              · have he : codeAt K k j = 0 := by unfold codeAt oneAt; rw [if_pos hik, if_neg hij]
                have hs : Hid (Fill wo.heap.size (j + 1) K (codeAt K k) wr.heap) := hf.out.skip he
                have hne : (((k : Nat) : Int) == ((j : Nat) : Int)) = false := by rw [beq_eq_false_iff_ne]; omega
                clear he hij
                go_wp2_with fail
                exact ⟨⟨j + 1, by omega, rfl, hs.out, hc.out⟩, by simp [intOf]; omega⟩
            · have hx : k ^^^ j < 16 := Nat.xor_lt_two_pow (n := 4) (by omega) (by omega)
              have hbx := xor_i64 k j (by omega) (by omega)
              have he := codeAt_inv (k := K) (i := k) (j := j) hik (by omega) (by omega)
              have HE := Lib.hid he
              have hs := hf.out.next hjl
              rw [he] at hs
              have HS := Lib.hid hs
              clear he hs
              go_wp2_with (go_at_call 29; refine Calls.mono (refinv_any _ _ ?_) ?_; omega; rintro e w' ⟨rfl, rfl⟩)
              exact ⟨⟨j + 1, by omega, rfl, HS.out, hc.out.setCell (fun _ => rfl) _⟩, by simp [intOf]; omega⟩
          · obtain rfl : j = K := by omega
            have hrow := hf.out.row (by omega) (w1.heap.size ≤ ·) hK.size
            have HO : Hid (wr.ownsRow w1.heap.size 39 1 u4 us.length us) := owns_chg HU.out hcw.out fun b hb e => by have := (own_block HU.out b hb).2.1; omega
            have HROW := Lib.hid hrow
            clear hrow
            go_wp2_with (at_builtin; refine wp_app1 elRows rfl _ _ rfl w1.heap.size u4 us rfl (HO.out.alloc _) _ (.slice (some ⟨wo.heap.size, 0, none⟩) j j) rfl ?c1 rfl ?c2 ?c3 ?_)
            case c1 => simp [go_sem]
            case c2 => have := HL2.out; omega
            case c3 => have := hK.size; simp; omega
            intro v' w2 hown hchg
            have ca : Chg (fun x => x = wo.heap.size) wo (wr.alloc (.cells #[.slice (some ⟨wo.heap.size, 0, none⟩) j j] 39)) := hcw.out.alloc _
            have hpush := OwnRows.push (m := matOf k j (codeAt j)) HL.out H3.out ca (fun b hb _ _ e => by omega) hown hchg
              (fun b hb => by
                obtain ⟨_, h5, h6⟩ := own_block HO.out b hb
                exact typH_chg (T := fun _ => False) ((Chg.refl _ wr).alloc _) h6 (fun x => x))
              (SeqIn.chg HROW.out (T := fun _ => False) ((Chg.refl _ _).alloc _) (fun _ _ _ _ x => x) fun _ _ _ x => x)
            have hk2 : Keeps w1 w2 := (((hK.chg.trans (ca.mono fun b hb e => by have := hK.size; omega))).trans (hchg.mono fun b hb0 hb => by
              exact (own_block HU.out b hb).1)).keeps fun b hb hx => by omega
            have HP := Lib.hid hpush
            clear hown hchg hpush
            go_wp2
            exact ⟨⟨k + 1, by omega, rfl, by have := HP.out; unfold matOf at this ⊢; rw [List.range_succ, List.map_append]; exact this, hk2⟩, by simp [intOf]; omega⟩
      · obtain rfl : k = N := by omega
        go_wp2
        go_ret2
        exact ⟨_, rfl, MatIn.mono (hR.mat (by simp [matOf]; omega)) fun b hb => Nat.le_trans hka.size hb, hka.call hK (Nat.le_refl _)⟩
  | false =>
    have e : ofM k n = ([], 1) := by unfold ofM; rw [hb]; rfl
    rw [e]
    clear e
    have HB := Lib.hid hb
    clear hb
    go_enter Tryd.func18, Tryd.ntmps18
    go_wp2_with fail
    refine Calls.mono (refmaycode_any _ _ _) ?_
    rintro e w1 ⟨rfl, hk1⟩
    rw [HB.out]
    go_wp2
    go_ret2
    exact GiveMat.err (((Kept.refl _ _).alloc (Nat.le_refl _) _).call hk1 (Nat.le_refl _))
end Go.Proofs.YtllfhaocdknejaaDoor
