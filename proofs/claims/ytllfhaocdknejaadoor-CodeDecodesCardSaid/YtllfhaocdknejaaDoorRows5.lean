/- The walk of matrix.Rows. -/
import Derived.Test.YtllfhaocdknejaaDoorMay5
import Derived.Test.YtllfhaocdknejaaDoorRefOf
import Derived.Test.YtllfhaocdknejaaDoorCopy5
namespace Go.Proofs.YtllfhaocdknejaaDoor
open Go.RowKit

/-- Some rows of a matrix, or how they are refused. -/
def okAt (m : List (List UInt8)) (i : Int) : Bool := decide (0 ≤ i ∧ i < (m.length : Int))
def pick (m : List (List UInt8)) (l : List Int) : List (List UInt8) := l.map fun i => m.getD i.toNat []
def rowsM (m : List (List UInt8)) (l : List Int) : List (List UInt8) × Int :=
  if mayB 12 m then if decide (1 ≤ l.length ∧ l.length ≤ 12) then if l.all (okAt m) then (pick m l, 0) else ([], 1) else ([], 1) else ([], 4)
theorem pick_snoc (m : List (List UInt8)) (l : List Int) {k : Nat} (h : k < l.length) : pick m (l.take (k + 1)) = pick m (l.take k) ++ [m.getD l[k].toNat []] := by
  unfold pick; rw [List.take_succ_eq_append_getElem h, List.map_append]; rfl

set_option maxRecDepth 100000 in
set_option maxHeartbeats 4000000 in
theorem matrows_any (va vl : Value) (m : List (List UInt8)) (l : List Int) (w : World) (ha : MatAt w.heap va m) (hl : SeqAt IsInt w.heap vl l) :
    Calls Tryd.prog 37 #[va, vl] w (GiveMat w (rowsM m l)) := by
  obtain ⟨pa, qa, rfl⟩ := seq_shape ha
  obtain ⟨pl, ql, rfl⟩ := seq_shape hl
  cases ma : mayB 12 m with
  | false =>
    have e : Hid (rowsM m l = ([], 4)) := by show _ = _; unfold rowsM; rw [ma]; rfl
    have MA := Lib.hid ma
    have HA := Lib.hid ha
    clear ha hl ma
    go_enter Tryd.func37, Tryd.ntmps37
    go_wp2_with fail
    refine Calls.mono (may_no _ m _ HA.out MA.out) ?_
    rintro e w1 ⟨rfl, hk⟩
    go_wp2
    go_ret2
    rw [e.out]
    exact GiveMat.err hk
  | true =>
    obtain ⟨a1, a2, a3, a4, _⟩ := mayB_iff.1 ma
    have MA := Lib.hid ma
    have HA := Lib.hid ha
    have HL := Lib.hid hl
    clear ha hl ma
    by_cases h1 : 1 ≤ l.length
    · by_cases h2 : l.length ≤ 12
      · have e : Hid (rowsM m l = if l.all (okAt m) then (pick m l, 0) else ([], 1)) := by show _ = _; unfold rowsM; rw [MA.out, decide_eq_true ⟨h1, h2⟩]; rfl
        have hmk := fun n h => mk_row n h
        go_enter Tryd.func37, Tryd.ntmps37
        go_wp2_with fail
        refine Calls.mono (may_yes _ m _ HA.out MA.out) ?_
        rintro e w1 ⟨rfl, hk1⟩
        have HA1 := Lib.hid (HA.out.keeps hk1)
        have HL1 := Lib.hid (SeqAt.keeps HL.out hk1)
        have HK1 := Lib.hid hk1
        clear hk1
        go_wp2
        go_loopw [6, 25] (fun v i wr => ∃ k : Nat, k ≤ l.length ∧ i = .int .i64 k ∧ Hid (OwnRows w1.heap.size wr v (pick m (l.take k))) ∧ Hid (Keeps w1 wr) ∧ Hid (∀ j (h : j < l.length), j < k → okAt m l[j] = true)) (fun _ i _ => l.length - (intOf i).toNat)
        case atStart => exact ⟨0, by omega, rfl, OwnSeq.nil _ _ _ _, keeps_refl w1, fun j _ h => by omega⟩
        case round =>
          obtain ⟨k, hk, rfl, hR, hK, hok⟩ := hrel
          by_cases hlt : k < l.length
          · obtain ⟨pl', ql', e0, _, hel⟩ := SeqAt.keeps HL1.out hK.out
            injection e0 with e2 e3 e4
            subst e2 e4
            obtain ⟨bl, ol, u, rfl, cl, r1⟩ := hel k hlt
            rw [← cell_of, r1] at cl
            have hlt64 : (k : Int) < (l.length : Int) := by omega
            clear hel
            have HX := Lib.hid (pick_snoc m l hlt)
            cases hx : okAt m l[k] with
            | true =>
              have HO' : Hid (∀ j (h : j < l.length), j < k + 1 → okAt m l[j] = true) := fun j h hj => by
                by_cases e : j = k
                · subst e; exact hx
                · exact hok.out j h (by omega)
              unfold okAt at hx
              obtain ⟨x1, x2⟩ := of_decide_eq_true hx
              clear hx
              obtain ⟨I, hI⟩ := Int.eq_ofNat_of_zero_le x1
              rw [hI] at x2 cl
              have HX : Hid (pick m (l.take (k + 1)) = pick m (l.take k) ++ [m.getD I []]) := by have := HX.out; rw [hI] at this; exact this
              clear hI x1
              have hi : I < m.length := by omega
              obtain ⟨b1, o1, c1, u1, e5, d1, r1⟩ := mat_row (HA1.out.keeps hK.out) hi
              injection e5 with e6 e7 e8
              subst e6 e8
              have hrl := may_row MA.out hi
              obtain ⟨na, hna⟩ : ∃ na, na = (m.headD []).length := ⟨_, rfl⟩
              rw [← hna] at a3 a4 hrl
              obtain ⟨p1, q1, rfl⟩ := seq_shape r1
              rw [hrl] at d1 r1
              have hm := hmk na (by omega)
              obtain ⟨us, hu1, hu2, hu3⟩ := hR.out
              have hul : us.length = k := by rw [hu2]; simp [pick]; omega
              have HU := Lib.hid hu1
              have HL5 := Lib.hid hu2
              have HL6 := Lib.hid hul
              have H3 := Lib.hid hu3
              have R1 := Lib.hid r1
              have RL := Lib.hid hrl
              clear hu1 hu2 hul hu3 r1 hrl hna hmk
              generalize m.getD I [] = r at *
              have hb1 := cell_lt d1
              have hsz := hK.out.size
              have hge : (wr.alloc (.cells (reps na (.int .u8 0)) 5)).heap[wr.heap.size]? = some (.cells (reps na (.int .u8 0)) 5 (0, 0)) := by unfold World.alloc; exact Array.getElem?_push_size
              have hk5 : Keeps wr (wr.alloc (.cells (reps na (.int .u8 0)) 5)) := (Kept.refl _ _).alloc (Nat.le_refl _) _
              have R5 : Hid (RowAt (wr.alloc (.cells (reps na (.int .u8 0)) 5)).heap (.slice p1 na q1) r) := SeqAt.keeps R1.out hk5
              have HG := Lib.hid hge
              clear hge
              go_wp2_with (with_reducible refine wp_copy_row rfl _ _ rfl wr.heap.size na na rfl (.slice p1 na q1) rfl r R5.out RL.out (by omega) (reps na (.int .u8 0)) HG.out (reps_size _ _) ?_)
              intro w6 hc6 hr6
              have hcw : Hid (Chg (fun x => x = wr.heap.size) wr w6) := ((Chg.refl _ wr).alloc _).trans hc6
              have HO : Hid (w6.ownsRow w1.heap.size 39 1 u6 us.length us) := owns_chg HU.out hcw.out fun b hb e => by have := (own_block HU.out b hb).2.1; omega
              have HROW : Hid (RowIn (w1.heap.size ≤ ·) w6.heap (.slice (some ⟨wr.heap.size, 0, none⟩) na na) r) := SeqIn.mono hr6 (fun b hb => by rw [hb]; exact hsz) fun _ _ x => x
              have hs6 := hcw.out.size
              clear hc6 hr6 hk5
              go_wp2_with (at_builtin; refine wp_app1 elRows rfl _ _ rfl w1.heap.size u6 us rfl (HO.out.alloc _) _ (.slice (some ⟨wr.heap.size, 0, none⟩) na na) rfl ?c1 rfl ?c2 ?c3 ?_)
              case c1 => simp [go_sem]
              case c2 => have := HL6.out; omega
              case c3 => simp; omega
              intro v' w2 hown hchg
              have ca : Chg (fun x => x = wr.heap.size) wr (w6.alloc (.cells #[.slice (some ⟨wr.heap.size, 0, none⟩) na na] 39)) := hcw.out.alloc _
              have hpush := OwnRows.push (m := pick m (l.take k)) HL5.out H3.out ca (fun b hb _ _ e => by omega) hown hchg
                (fun b hb => by
                  obtain ⟨_, h5, h6⟩ := own_block HO.out b hb
                  exact typH_chg (T := fun _ => False) ((Chg.refl _ w6).alloc _) h6 (fun x => x))
                (SeqIn.chg HROW.out (T := fun _ => False) ((Chg.refl _ _).alloc _) (fun _ _ _ _ x => x) fun _ _ _ x => x)
              have hk2 : Keeps w1 w2 := ((hK.out.chg.trans (ca.mono fun b hb e => by omega)).trans (hchg.mono fun b hb0 hb => by
                exact (own_block HU.out b hb).1)).keeps fun b hb hx => by omega
              have HP := Lib.hid hpush
              clear hown hchg hpush
              go_wp2
              exact ⟨⟨k + 1, by omega, rfl, by rw [HX.out]; exact HP.out, hk2, HO'⟩, by simp [intOf]; omega⟩
            | false =>
              have HO : Hid (l.all (okAt m) = false) := by
                refine List.all_eq_false.2 ⟨l[k], List.getElem_mem hlt, by rw [hx]; simp⟩
              unfold okAt at hx
              have hx := of_decide_eq_false hx
              clear hmk
              by_cases x1 : 0 ≤ l[k]
              · have x2 : ¬ l[k] < (m.length : Int) := fun h => hx ⟨x1, h⟩
                clear hx
                generalize l[k] = x at *
                go_wp2
                go_ret2
                rw [e.out, HO.out]
                exact GiveMat.err (HK1.out.call hK.out (Nat.le_refl _))
              · clear hx
                generalize l[k] = x at *
                go_wp2
                go_ret2
                rw [e.out, HO.out]
                exact GiveMat.err (HK1.out.call hK.out (Nat.le_refl _))
          · obtain rfl : k = l.length := by omega
            have HO : Hid (l.all (okAt m) = true) := List.all_eq_true.2 fun x hx => by
              obtain ⟨j, hj, rfl⟩ := List.getElem_of_mem hx
              exact hok.out j hj hj
            have HR : Hid (OwnRows w1.heap.size wr u6 (pick m l)) := by have := hR.out; rw [List.take_length] at this; exact this
            clear hR hmk
            go_wp2
            go_ret2
            rw [e.out, HO.out]
            exact ⟨_, rfl, MatIn.mono (HR.out.mat (by simp [pick]; omega)) fun b hb => Nat.le_trans HK1.out.size hb, HK1.out.call hK.out (Nat.le_refl _)⟩
      · have e : Hid (rowsM m l = ([], 1)) := by show _ = _; unfold rowsM; rw [MA.out, decide_eq_false (by omega)]; rfl
        go_enter Tryd.func37, Tryd.ntmps37
        go_wp2_with fail
        refine Calls.mono (may_yes _ m _ HA.out MA.out) ?_
        rintro e w1 ⟨rfl, hk⟩
        go_wp2
        go_ret2
        rw [e.out]
        exact GiveMat.err hk
    · have e : Hid (rowsM m l = ([], 1)) := by show _ = _; unfold rowsM; rw [MA.out, decide_eq_false (by omega)]; rfl
      go_enter Tryd.func37, Tryd.ntmps37
      go_wp2_with fail
      refine Calls.mono (may_yes _ m _ HA.out MA.out) ?_
      rintro e w1 ⟨rfl, hk⟩
      go_wp2
      go_ret2
      rw [e.out]
      exact GiveMat.err hk
end Go.Proofs.YtllfhaocdknejaaDoor
