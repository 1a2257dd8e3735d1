/- The walk of the law's own product. -/
import Derived.Test.YtojdodbedemkoaaSolLaw
import Derived.Test.YtojdodbedemkoaaRowF
import Derived.Test.YtojdodbedemkoaaRefMul
namespace Go.Proofs.Ytojdodbedemkoaa
open Go.RowKit
/-- A product's row while it is made: the first j are done, number j has t terms. -/
def tmF (P S : Nat → UInt8) (j t : Nat) : Nat → UInt8 := fun q => if q < j then P q else if q = j then S t else 0
theorem tmF_next {P S S' : Nat → UInt8} {j n : Nat} (h : S n = P j) (h0 : S' 0 = 0) : tmF P S j n = tmF P S' (j + 1) 0 := by
  funext q
  unfold tmF
  by_cases e : q < j
  · rw [if_pos e, if_pos (by omega)]
  · rw [if_neg e]
    by_cases e2 : q = j
    · subst e2; rw [if_pos rfl, if_pos (by omega), h]
    · rw [if_neg e2, if_neg (by omega)]
      by_cases e3 : q = j + 1
      · rw [if_pos e3, h0]
      · rw [if_neg e3]
theorem RowF.rowIn {S : Nat → Prop} {h : Array Obj} {r n : Nat} {f : Nat → UInt8} (k : RowF h r n f) (hS : S r) (hn : n ≤ 4096) : RowIn S h (.slice (some ⟨r, 0, none⟩) n n) ((List.range n).map f) := by
  refine ⟨some ⟨r, 0, none⟩, n, by rw [List.length_map, List.length_range], by rw [List.length_map, List.length_range]; omega, fun j hj => ⟨r, 0, .int .u8 ((f j).toNat : Int), rfl, ⟨hS, k.1⟩, ?_, ?_, ?_⟩⟩
  · simp only [List.length_map, List.length_range] at hj
    rw [Nat.zero_add]; exact (k.2 j hj).1
  · simp only [List.length_map, List.length_range] at hj
    rw [Nat.zero_add]; exact (k.2 j hj).2
  · simp [IsByte]
theorem RowF.new (w : World) (n : Nat) : RowF (w.alloc (.cells (reps n (.int .u8 0)) 5)).heap w.heap.size n (fun _ => 0) :=
  ⟨typH_new _ _ _, fun j hj => ⟨(reps_cell w n _ _ j hj).2, (reps_cell w n _ _ j hj).1⟩⟩

set_option maxRecDepth 100000 in
set_option maxHeartbeats 4000000 in
theorem tms_any (va vb : Value) (a b : List (List UInt8)) (n p : Nat) (w : World) (ha : MatAt w.heap va a) (hb : MatAt w.heap vb b) (hra : LA.Rect a n) (hrb : LA.Rect b p) (hn : b.length = n) (h1 : 1 ≤ n) (h2 : 1 ≤ p)
    (h3 : a.length ≤ 4096) (h4 : n ≤ 4096) (h5 : p ≤ 4096) (h6 : 1 ≤ a.length) :
    Calls Try.prog 44 #[va, vb] w fun e w' => ∃ v, e = .returned v ∧ MatIn (w.heap.size ≤ ·) w'.heap v (matOf a.length p (prodAt a b)) ∧ Keeps w w' := by
  obtain ⟨pa, qa, rfl⟩ := seq_shape ha
  obtain ⟨pb, qb, rfl⟩ := seq_shape hb
  obtain ⟨ba, oa, rfl⟩ := mat_addr ha (by omega)
  obtain ⟨bb, ob, rfl⟩ := mat_addr hb (by omega)
  have HA := Lib.hid ha
  have HB := Lib.hid hb
  have HRA := Lib.hid hra
  have HRB := Lib.hid hrb
  have HN := Lib.hid hn
  have H1 := Lib.hid h1
  have H2 := Lib.hid h2
  have H6 := Lib.hid h6
  have hmk := mk_row p (by omega)
  have i0 : (0 : Int) < (b.length : Int) := by omega
  have h4 : b.length ≤ 4096 := by omega
  clear ha hb hra hrb hn h6 h1 h2
  go_enter Try.func44, Try.ntmps44
  go_wp2
  go_loopw [5, 6] (fun v i wr => ∃ k : Nat, k ≤ a.length ∧ i = .int .i64 k ∧ Hid (OwnRows w.heap.size wr v (matOf k p (prodAt a b))) ∧ Hid (Keeps w wr)) (fun _ i _ => a.length - (intOf i).toNat)
  case atStart => exact ⟨0, by omega, rfl, OwnSeq.nil _ _ _ _, keeps_refl w⟩
  case round =>
    obtain ⟨k, hk, rfl, hR, hK⟩ := hrel
    obtain ⟨wo, rfl⟩ : ∃ wo : World, wo = wr := ⟨_, rfl⟩
    by_cases hlt : k < a.length
    · have hlt64 : (k : Int) < (a.length : Int) := by omega
      have HBo := Lib.hid (HB.out.keeps hK.out)
      obtain ⟨q0, o0, c0, r0, _⟩ := row_cells HBo.out HRB.out H2.out (i := 0) (by have := HN.out; have := H1.out; omega)
      have r0 : wo.cell? ⟨bb, ob, none⟩ = some (.slice (some ⟨q0, o0, none⟩) p c0) := r0
      go_wp2_with fail
      go_loopw [8] (fun c wi => ∃ j : Nat, j ≤ p ∧ c = .int .i64 j ∧ Hid (RowF wi.heap wo.heap.size p (tmF (prodAt a b k) (fun t => LA.sum t fun q => LA.mul (LA.at_ a k q) (LA.at_ b q j)) j 0)) ∧ Hid (Keeps wo wi)) (fun c _ => p - (intOf c).toNat)
      case atStart => exact ⟨0, by omega, rfl, (RowF.new wo p).congr fun j _ => by unfold tmF; rw [if_neg (by omega)]; split <;> rfl, (keeps_refl wo).al _⟩
      case round =>
        obtain ⟨j, hj, rfl, hF, hk1⟩ := hrel
        obtain ⟨wi, rfl⟩ : ∃ wi : World, wi = wr := ⟨_, rfl⟩
        by_cases hjl : j < p
        · have hj64 : (j : Int) < (p : Int) := by omega
          go_wp2_with fail
          go_loopw [9] (fun t wt => ∃ tt : Nat, tt ≤ b.length ∧ t = .int .i64 tt ∧ Hid (RowF wt.heap wo.heap.size p (tmF (prodAt a b k) (fun t => LA.sum t fun q => LA.mul (LA.at_ a k q) (LA.at_ b q j)) j tt)) ∧ Hid (Keeps wo wt)) (fun t _ => b.length - (intOf t).toNat)
          case atStart => exact ⟨0, by omega, rfl, hF, hk1⟩
          case round =>
            obtain ⟨t, ht, rfl, hF2, hk2⟩ := hrel
            by_cases htl : t < b.length
            · have ht64 : (t : Int) < (b.length : Int) := by omega
              have htn : (t : Int) < (n : Int) := by have := HN.out; omega
              have hkt : Keeps w wr := hK.out.call hk2.out (Nat.le_refl _)
              obtain ⟨c1, c2, c3, ra, ca0⟩ := row_cells (HA.out.keeps hkt) HRA.out H1.out hlt
              obtain ⟨d1, d2, d3, rb, cb0⟩ := row_cells (HB.out.keeps hkt) HRB.out H2.out htl
              have ca := ca0 t (by have := HN.out; omega)
              have cb := cb0 j hjl
              obtain ⟨f0, cr0⟩ := hF2.out.2 j hjl
              rw [← cell_of] at cr0
              rw [← froz_of] at f0
              have HSET : Hid (∀ s, (LA.sum t fun q => LA.mul (LA.at_ a k q) (LA.at_ b q j)) ^^^ LA.mul (LA.at_ a k t) (LA.at_ b t j) = s → RowF (wr.setCell ⟨wo.heap.size, j, none⟩ (.int .u8 (s.toNat : Int))).heap wo.heap.size p (tmF (prodAt a b k) (fun t => LA.sum t fun q => LA.mul (LA.at_ a k q) (LA.at_ b q j)) j (t + 1))) := fun s hs =>
                (hF2.out.set hjl s).congr fun q hq => by
                  subst hs
                  unfold tmF
                  (try dsimp only)
                  by_cases e : q = j
                  · rw [if_pos e, if_neg (by omega), if_pos e]; rfl
                  · rw [if_neg e, if_neg e, if_neg e]
              have cr : wr.cell? ⟨wo.heap.size, j, none⟩ = some (.int .u8 ((LA.sum t fun q => LA.mul (LA.at_ a k q) (LA.at_ b q j)).toNat : Int)) := by
                rw [cr0]; unfold tmF; (try dsimp only); rw [if_neg (by omega), if_pos rfl]
              have hx := gxor (LA.sum t fun q => LA.mul (LA.at_ a k q) (LA.at_ b q j)) (LA.mul (LA.at_ a k t) (LA.at_ b t j))
              have HLK : Hid (wo.heap.size < wr.heap.size ∨ True) := Or.inr trivial
              have HKN : Hid (∀ s : UInt8, Keeps wo (wr.setCell ⟨wo.heap.size, j, none⟩ (.int .u8 (s.toNat : Int)))) := fun s => (Chg.setCell (p := ⟨wo.heap.size, j, none⟩) hk2.out.chg (fun h => absurd h (by show ¬ wo.heap.size < wo.heap.size; omega)) _).keeps fun b hb h => by omega
              clear HLK hkt ca0 cb0 cr0
              generalize LA.at_ a k t = x at *
              generalize LA.at_ b t j = y at *
              generalize (LA.sum t fun q => LA.mul (LA.at_ a k q) (LA.at_ b q j)) = s at *
              go_wp2_with fail
              refine wp_region_tail (List.dropLast _) (List.getLast _ (List.cons_ne_nil _ _)) (List.dropLast_concat_getLast _).symm (by kernel_rfl) (by kernel_rfl) (by kernel_rfl) (by kernel_rfl) rfl (by kernel_rfl) ?_; simp only [List.dropLast_cons_cons, List.dropLast_singleton, List.getLast_cons_cons, List.getLast_singleton]; (repeat (go_big_quiet_step ((go_at_call 59; refine Calls.mono (grefmul _ _ _) ?_; rintro e w' ⟨rfl, rfl⟩; exact ⟨rfl, _, rfl⟩)))); refine wpQuiet_nil ?_; intro _ hw1; obtain ⟨nq, hw2⟩ := hw1; subst hw2
              go_wp2
              exact ⟨⟨t + 1, by omega, rfl, (by rw [← LA.xor_toNat]; exact HSET.out _ rfl), (by rw [← LA.xor_toNat]; exact HKN.out _)⟩, by simp [intOf]; omega⟩
            · obtain rfl : t = b.length := by omega
              have HF3 : Hid (RowF wr.heap wo.heap.size p (tmF (prodAt a b k) (fun t => LA.sum t fun q => LA.mul (LA.at_ a k q) (LA.at_ b q (j + 1))) (j + 1) 0)) := by
                show RowF _ _ _ _
                rw [← tmF_next (S := fun t => LA.sum t fun q => LA.mul (LA.at_ a k q) (LA.at_ b q j)) (n := b.length) rfl rfl]
                exact hF2.out
              go_wp2
              exact ⟨⟨j + 1, by omega, rfl, HF3, hk2⟩, by simp [intOf]; omega⟩
        · obtain rfl : j = p := by omega
          obtain ⟨us, hu1, hu2, hu3⟩ := hR.out
          have hul : us.length = k := by rw [hu2]; simp [matOf]
          have HU := Lib.hid hu1
          have HL2 := Lib.hid hu2
          have HL3 := Lib.hid hul
          have H3 := Lib.hid hu3
          have hs1 := hK.out.size
          have hs2 := hk1.out.size
          clear hu1 hu2 hul hu3
          have HO : Hid (wi.ownsRow w.heap.size 33 1 u5 us.length us) := owns_chg HU.out hk1.out.chg fun x hx h => by have := (own_block HU.out x hx).2.1; omega
          have HROW : Hid (RowIn (w.heap.size ≤ ·) wi.heap (.slice (some ⟨wo.heap.size, 0, none⟩) j j) ((List.range j).map (prodAt a b k))) :=
            (hF.out.congr fun q hq => by unfold tmF; rw [if_pos hq]).rowIn hs1 h5
          go_wp2_with (at_builtin; refine wp_app1 elRows rfl _ _ rfl w.heap.size u5 us rfl (HO.out.alloc _) _ (.slice (some ⟨wo.heap.size, 0, none⟩) j j) rfl ?c1 rfl ?c2 ?c3 ?_)
          case c1 => first | exact World.cell?_alloc_new _ _ _ _ | simp [go_sem]
          case c2 => have := HL3.out; omega
          case c3 => simp; omega
          intro v' w2 hown hchg
          have ca : Chg (fun x => wo.heap.size ≤ x) wo (wi.alloc (.cells #[.slice (some ⟨wo.heap.size, 0, none⟩) j j] 33)) := hk1.out.chg.alloc _
          have hpush := OwnRows.push (m := matOf k j (prodAt a b)) HL2.out H3.out ca (fun x hx _ _ h => by omega) hown hchg
            (fun x hx => by
              obtain ⟨_, h5, h6⟩ := own_block HO.out x hx
              exact typH_chg (T := fun _ => False) ((Chg.refl _ wi).alloc _) h6 (fun x => x))
            (SeqIn.chg HROW.out (T := fun _ => False) ((Chg.refl _ _).alloc _) (fun _ _ _ _ x => x) fun _ _ _ x => x)
          have hk2 : Hid (Keeps w w2) := ((hK.out.chg.trans (ca.mono fun x _ hx => Nat.le_trans hs1 hx)).trans (hchg.mono fun x _ hx => (own_block HU.out x hx).1)).keeps fun x hx h => by omega
          have HP := Lib.hid hpush
          clear hown hchg hpush
          go_wp2
          exact ⟨⟨k + 1, by omega, rfl, by have := HP.out; unfold matOf at this ⊢; rw [List.range_succ, List.map_append]; exact this, hk2⟩, by simp [intOf]; omega⟩
    · obtain rfl : k = a.length := by omega
      go_wp2
      go_ret
      exact ⟨_, rfl, hR.out.mat (by simp [matOf]; omega), hK.out⟩
end Go.Proofs.Ytojdodbedemkoaa
