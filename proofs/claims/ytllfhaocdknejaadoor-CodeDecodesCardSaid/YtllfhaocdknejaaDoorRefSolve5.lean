/- The walks of strongboxref03.May and of the law's own large. -/
import Derived.Test.YtllfhaocdknejaaDoorRows5
import Derived.Test.YtllfhaocdknejaaDoorRefGm
import Derived.Test.YtllfhaocdknejaaDoorApp
import Derived.Test.YtllfhaocdknejaaDoorStep
import Derived.Test.YtllfhaocdknejaaDoorBlk
import Derived.Test.YtllfhaocdknejaaDoorDown5
import Derived.Test.YtllfhaocdknejaaDoorSolTurn
import Derived.Test.YtllfhaocdknejaaDoorDecM
namespace Go.Proofs.YtllfhaocdknejaaDoor
open Go.RowKit
theorem row0' {w : World} {p : Option Addr} {q : Nat} {m : List (List UInt8)} (h : MatAt w.heap (.slice p m.length q) m) (h1 : 1 ≤ m.length) : ∃ b off a ca, p = some ⟨b, off, none⟩ ∧ w.cell? ⟨b, off, none⟩ = some (.slice a (m.headD []).length ca) := by
  obtain ⟨b, off, c, a, ca, e, h⟩ := row0 h h1
  injection e with e1 e2 e3
  exact ⟨b, off, a, ca, e1, h⟩

set_option maxRecDepth 100000 in
set_option maxHeartbeats 4000000 in
theorem refmay_any (va : Value) (m : List (List UInt8)) (w : World) (ha : MatAt w.heap va m) :
    Calls Tryd.prog 30 #[va] w fun e w' => e = .returned (.bool (mayB 12 m)) ∧ ∃ n, w' = w.drewN n := by
  obtain ⟨pa, qa, rfl⟩ := seq_shape ha
  have HA := Lib.hid ha
  by_cases h1 : 1 ≤ m.length
  · by_cases h2 : m.length ≤ 12
    · obtain ⟨b1, o1, p1, q1, rfl, d1⟩ := row0' ha h1
      obtain ⟨na, hna⟩ : ∃ na, na = (m.headD []).length := ⟨_, rfl⟩
      rw [← hna] at d1
      have HNA := Lib.hid hna
      clear hna ha
      have i1 : (0 : Int) < (m.length : Int) := by omega
      go_enter Tryd.func30, Tryd.ntmps30
      go_wp2
      go_loopw [3] (fun i wr => ∃ k : Nat, k ≤ m.length ∧ i = .int .i64 k ∧ Hid (∀ j (h : j < m.length), j < k → 1 ≤ m[j].length ∧ m[j].length ≤ 12 ∧ m[j].length = na) ∧ ∃ n, wr = w.drewN n) (fun i _ => m.length - (intOf i).toNat)
      case atStart => exact ⟨0, by omega, rfl, fun j _ h => by omega, 0, rfl⟩
      case round =>
        obtain ⟨k, hk, rfl, hno, n0, rfl⟩ := hrel
        by_cases hlt : k < m.length
        · obtain ⟨b2, o2, c2, u2, e2, c1, r1⟩ := mat_row HA.out hlt
          injection e2 with e3 e4 e5
          injection e3 with e3
          injection e3 with e6 e7
          subst e6 e7
          obtain ⟨p2, q2, rfl⟩ := seq_shape r1
          have hg : m.getD k [] = m[k] := by rw [List.getD_eq_getElem?_getD, List.getElem?_eq_getElem hlt]; rfl
          rw [hg] at c1
          obtain ⟨lk, hlk⟩ : ∃ lk, lk = m[k].length := ⟨_, rfl⟩
          rw [← hlk] at c1
          have HLK := Lib.hid hlk
          have hlt64 : (k : Int) < (m.length : Int) := by omega
          clear hg r1 hlk e4 e5
          by_cases x1 : 1 ≤ lk
          · have q1 : decide ((lk : Int) < 1) = false := decide_eq_false (by omega)
            by_cases x2 : lk ≤ 12
            · have q2 : decide (12 < (lk : Int)) = false := decide_eq_false (by omega)
              by_cases x3 : lk = na
              · have hb : ((lk : Int) != (na : Int)) = false := by rw [bne_eq_false_iff_eq, x3]
                have HO : Hid (∀ j (h : j < m.length), j < k + 1 → 1 ≤ m[j].length ∧ m[j].length ≤ 12 ∧ m[j].length = na) := fun j h hj => by
                  by_cases e : j = k
                  · subst e; rw [← HLK.out]; exact ⟨x1, x2, x3⟩
                  · exact hno.out j h (by omega)
                clear x3
                go_wp2
                go_region
                all_goals
                  go_wp2
                  exact ⟨⟨k + 1, by omega, rfl, HO, _, rfl⟩, by simp [intOf]; omega⟩
              · have hb : ((lk : Int) != (na : Int)) = true := by rw [bne_iff_ne]; omega
                have HE : Hid (mayB 12 m = false) := by
                  refine decide_eq_false fun h => x3 ?_
                  rw [HLK.out, HNA.out]; exact h.2.2.2.2 _ (List.getElem_mem hlt)
                clear x3
                go_wp2
                go_region
                all_goals
                  go_wp2
                  go_ret
                  exact ⟨by rw [HE.out]; rfl, _, rfl⟩
            · have q2 : decide (12 < (lk : Int)) = true := decide_eq_true (by omega)
              have HE : Hid (mayB 12 m = false) := by
                refine decide_eq_false fun h => x2 ?_
                have h1 := h.2.2.2.2 _ (List.getElem_mem hlt)
                have h2 := HLK.out
                have h3 := h.2.2.2.1
                omega
              go_wp2
              go_region
              all_goals
                go_wp2
                go_ret
                exact ⟨by rw [HE.out]; rfl, _, rfl⟩
          · have q1 : decide ((lk : Int) < 1) = true := decide_eq_true (by omega)
            have HE : Hid (mayB 12 m = false) := by
              refine decide_eq_false fun h => x1 ?_
              have h1 := h.2.2.2.2 _ (List.getElem_mem hlt)
              have h2 := HLK.out
              have h3 := h.2.2.1
              omega
            go_wp2
            go_region
            all_goals
              go_wp2
              go_ret
              exact ⟨by rw [HE.out]; rfl, _, rfl⟩
        · obtain rfl : k = m.length := by omega
          have HE : Hid (mayB 12 m = true) := by
            have h0 := hno.out 0 (by omega) (by omega)
            have hz : m[0].length = na := h0.2.2
            refine mayB_iff.2 ⟨h1, h2, by rw [← HNA.out]; omega, by rw [← HNA.out]; omega, fun r hr => ?_⟩
            obtain ⟨j, hj, rfl⟩ := List.getElem_of_mem hr
            rw [← HNA.out]; exact (hno.out j hj hj).2.2
          go_wp2
          go_ret
          exact ⟨by rw [HE.out]; rfl, _, rfl⟩
    · have HE : Hid (mayB 12 m = false) := decide_eq_false fun h => h2 h.2.1
      clear ha
      go_enter Tryd.func30, Tryd.ntmps30
      go_wp2
      go_ret
      exact ⟨by rw [HE.out]; rfl, 0, rfl⟩
  · have HE : Hid (mayB 12 m = false) := decide_eq_false fun h => h1 h.1
    clear ha
    go_enter Tryd.func30, Tryd.ntmps30
    go_wp2
    go_ret
    exact ⟨by rw [HE.out]; rfl, 0, rfl⟩
theorem refmay_yes (va : Value) (m : List (List UInt8)) (w : World) (hm : MatAt w.heap va m) (h : mayB 12 m = true) : Calls Tryd.prog 30 #[va] w fun e w' => e = .returned (.bool true) ∧ ∃ n, w' = w.drewN n := by
  have := refmay_any va m w hm; rw [h] at this; exact this
theorem refmay_no (va : Value) (m : List (List UInt8)) (w : World) (hm : MatAt w.heap va m) (h : mayB 12 m = false) : Calls Tryd.prog 30 #[va] w fun e w' => e = .returned (.bool false) ∧ ∃ n, w' = w.drewN n := by
  have := refmay_any va m w hm; rw [h] at this; exact this
end Go.Proofs.YtllfhaocdknejaaDoor
/- The walk of strongboxref03.Rows. -/
namespace Go.Proofs.YtllfhaocdknejaaDoor
open Go.RowKit

set_option maxRecDepth 100000 in
set_option maxHeartbeats 4000000 in
theorem refrows_any (va vl : Value) (m : List (List UInt8)) (l : List Int) (w : World) (ha : MatAt w.heap va m) (hl : SeqAt IsInt w.heap vl l) :
    Calls Tryd.prog 19 #[va, vl] w (GiveMat w (rowsM m l)) := by
  obtain ⟨pa, qa, rfl⟩ := seq_shape ha
  obtain ⟨pl, ql, rfl⟩ := seq_shape hl
  cases ma : mayB 12 m with
  | false =>
    have e : Hid (rowsM m l = ([], 4)) := by show _ = _; unfold rowsM; rw [ma]; rfl
    have MA := Lib.hid ma
    have HA := Lib.hid ha
    clear ha hl ma
    go_enter Tryd.func19, Tryd.ntmps19
    go_wp2_with (first | (go_at_call 30; refine Calls.mono (refmay_no _ m _ ?_ MA.out) ?_; exact HA.out; rintro e w' ⟨rfl, n, rfl⟩))
    go_ret2
    rw [e.out]
    exact GiveMat.err (keeps_refl _)
  | true =>
    obtain ⟨a1, a2, a3, a4, _⟩ := mayB_iff.1 ma
    have MA := Lib.hid ma
    have HA := Lib.hid ha
    have HL := Lib.hid hl
    clear ha hl ma
    by_cases h1 : 1 ≤ l.length
    · by_cases h2 : l.length ≤ 12
      · have e : Hid (rowsM m l = if l.all (okAt m) then (pick m l, 0) else ([], 1)) := by show _ = _; unfold rowsM; rw [MA.out, decide_eq_true ⟨h1, h2⟩]; rfl
        go_enter Tryd.func19, Tryd.ntmps19
        go_wp2_with (first | (go_at_call 30; (with_reducible refine Calls.mono (refmay_yes _ m _ ?_ MA.out) ?_); exact HA.out; rintro e w' ⟨rfl, n0, rfl⟩))
        have HAz : Hid (MatAt (w.drewN n0).heap (.slice pa m.length qa) m) := HA
        have HLz : Hid (SeqAt IsInt (w.drewN n0).heap (.slice pl l.length ql) l) := HL
        have HKz : Hid (Keeps w (w.drewN n0)) := keeps_refl w
        generalize w.drewN n0 = w1 at *
        go_loopw [6, 7] (fun v i wr => ∃ k : Nat, k ≤ l.length ∧ i = .int .i64 k ∧ Hid (OwnRows w1.heap.size wr v (pick m (l.take k))) ∧ Hid (Keeps w1 wr) ∧ Hid (∀ j (h : j < l.length), j < k → okAt m l[j] = true)) (fun _ i _ => l.length - (intOf i).toNat)
        case atStart => exact ⟨0, by omega, rfl, OwnSeq.nil _ _ _ _, keeps_refl w1, fun j _ h => by omega⟩
        case round =>
          obtain ⟨k, hk, rfl, hR, hK, hok⟩ := hrel
          by_cases hlt : k < l.length
          · obtain ⟨pl', ql', e0, _, hel⟩ := SeqAt.keeps HLz.out hK.out
            injection e0 with e2 e3 e4
            subst e2 e4
            obtain ⟨bl, ol, u, rfl, cl, r1⟩ := hel k hlt
            rw [← cell_of, r1] at cl
            have hlt64 : (k : Int) < (l.length : Int) := by omega
            have hge0 : (0 : Int) ≤ (k : Int) := by omega
            clear hel
            have HX := Lib.hid (pick_snoc m l hlt)
            cases hx : okAt m l[k] with
            | true =>
              have HO' : Hid (∀ j (h : j < l.length), j < k + 1 → okAt m l[j] = true) := fun j h hj => by
                by_cases e : j = k
                · subst e; exact hx
                · exact hok.out j h (by omega)
              unfold okAt at hx
              obtain ⟨x1, x2⟩ := of_decide_eq_true hx
              clear hx
              obtain ⟨I, hI⟩ := Int.eq_ofNat_of_zero_le x1
              rw [hI] at x2 cl
              have HX : Hid (pick m (l.take (k + 1)) = pick m (l.take k) ++ [m.getD I []]) := by have := HX.out; rw [hI] at this; exact this
              clear hI x1
              have hi : I < m.length := by omega
              have x1 : (0 : Int) ≤ (I : Int) := by omega
              have x3 : decide ((I : Int) < 0) = false := decide_eq_false (by omega)
              have x4 : decide ((m.length : Int) ≤ (I : Int)) = false := decide_eq_false (by omega)
              have x5 : decide (m.length ≤ I) = false := decide_eq_false (by omega)
              obtain ⟨b1, o1, c1, u1, e5, d1, r1⟩ := mat_row (HAz.out.keeps hK.out) hi
              injection e5 with e6 e7 e8
              subst e6 e8
              have hrl := may_row MA.out hi
              obtain ⟨na, hna⟩ : ∃ na, na = (m.headD []).length := ⟨_, rfl⟩
              rw [← hna] at a3 a4 hrl
              obtain ⟨q0, o0, c0, e9, _⟩ := row_cell (j := 0) r1 (by omega)
              subst e9
              rw [hrl] at d1 r1
              obtain ⟨us, hu1, hu2, hu3⟩ := hR.out
              have hul : us.length = k := by rw [hu2]; simp [pick]; omega
              have HU := Lib.hid hu1
              have HL5 := Lib.hid hu2
              have HL6 := Lib.hid hul
              have H3 := Lib.hid hu3
              have R1 := Lib.hid r1
              have RL := Lib.hid hrl
              clear hu1 hu2 hul hu3 r1 hrl hna
              generalize m.getD I [] = r at *
              have hb1 := cell_lt d1
              have hb2 := cell_lt cl
              have hsz := hK.out.size
              have hk5 : Keeps wr (wr.alloc (.cells #[] 5)) := (Kept.refl _ _).alloc (Nat.le_refl _) _
              have R5 : Hid (RowAt (wr.alloc (.cells #[] 5)).heap (.slice (some ⟨q0, o0, none⟩) na c0) r) := SeqAt.keeps R1.out hk5
              clear hk5
              go_wp2_with (at_builtin; refine wp_apps elRow rfl _ _ rfl wr.heap.size _ [] rfl (own_empty _ _ _ (Nat.le_refl _)) q0 o0 na c0 (bytesV r) rfl (by rw [bytesV_length]; exact RL.out) (bytesV_at R5.out) (bytesV_one r) ?c1 ?c2 ?_)
              case c1 => have := RL.out; rw [bytesV_length]; omega
              intro v6 w6 hown6 hchg6
              have hc6 : Hid (Chg (fun x => x = wr.heap.size) wr w6) := ((Chg.refl _ wr).alloc _).trans (hchg6.mono fun x _ h => by simp only [Value.ownBlock, Option.some.injEq] at h; exact h.symm)
              have hr6 : Hid (RowIn (wr.heap.size ≤ ·) w6.heap v6 r) := (bytesV_seq (by simpa using hown6)).seq (by have := RL.out; omega)
              have HO : Hid (w6.ownsRow w1.heap.size 39 1 u6 us.length us) := owns_chg HU.out hc6.out fun b hb e => by have := (own_block HU.out b hb).2.1; omega
              have HROW : Hid (RowIn (w1.heap.size ≤ ·) w6.heap v6 r) := SeqIn.mono hr6.out (fun b hb => Nat.le_trans hsz hb) fun _ _ x => x
              have hs6 := hc6.out.size
              obtain ⟨p6, q6, rfl⟩ := seq_shape hr6.out.at_
              clear hown6 hchg6
              go_wp2_with (at_builtin; refine wp_app1 elRows rfl _ _ rfl w1.heap.size u6 us rfl (HO.out.alloc _) _ (.slice p6 r.length q6) rfl ?d1 rfl ?d2 ?d3 ?_)
              case d1 => simp [go_sem]
              case d2 => have := HL6.out; omega
              case d3 => simp; omega
              intro v' w2 hown hchg
              have ca : Chg (fun x => x = wr.heap.size) wr (w6.alloc (.cells #[.slice p6 r.length q6] 39)) := hc6.out.alloc _
              have hpush := OwnRows.push (m := pick m (l.take k)) HL5.out H3.out ca (fun b hb _ _ e => by omega) hown hchg
                (fun b hb => by
                  obtain ⟨_, h5, h6⟩ := own_block HO.out b hb
                  exact typH_chg (T := fun _ => False) ((Chg.refl _ w6).alloc _) h6 (fun x => x))
                (SeqIn.chg HROW.out (T := fun _ => False) ((Chg.refl _ _).alloc _) (fun _ _ _ _ x => x) fun _ _ _ x => x)
              have hk2 : Hid (Keeps w1 w2) := ((hK.out.chg.trans (ca.mono fun b hb e => by omega)).trans (hchg.mono fun b hb0 hb => by
                exact (own_block HU.out b hb).1)).keeps fun b hb hx => by omega
              have HP := Lib.hid hpush
              clear hown hchg hpush
              go_wp2
              exact ⟨⟨k + 1, by omega, rfl, by rw [HX.out]; exact HP.out, hk2, HO'⟩, by simp [intOf]; omega⟩
            | false =>
              have HO : Hid (l.all (okAt m) = false) := by
                refine List.all_eq_false.2 ⟨l[k], List.getElem_mem hlt, by rw [hx]; simp⟩
              unfold okAt at hx
              have hx := of_decide_eq_false hx
              by_cases x1 : 0 ≤ l[k]
              · have x2 : ¬ l[k] < (m.length : Int) := fun h => hx ⟨x1, h⟩
                clear hx
                generalize l[k] = x at *
                have x3 : decide (x < 0) = false := decide_eq_false (by omega)
                have x4 : decide ((m.length : Int) ≤ x) = true := decide_eq_true (by omega)
                go_wp2
                go_ret2
                rw [e.out, HO.out]
                exact GiveMat.err (HKz.out.call hK.out (Nat.le_refl _))
              · clear hx
                generalize l[k] = x at *
                have x3 : decide (x < 0) = true := decide_eq_true (by omega)
                go_wp2
                go_ret2
                rw [e.out, HO.out]
                exact GiveMat.err (HKz.out.call hK.out (Nat.le_refl _))
          · obtain rfl : k = l.length := by omega
            have HO : Hid (l.all (okAt m) = true) := List.all_eq_true.2 fun x hx => by
              obtain ⟨j, hj, rfl⟩ := List.getElem_of_mem hx
              exact hok.out j hj hj
            have HR : Hid (OwnRows w1.heap.size wr u6 (pick m l)) := by have := hR.out; rw [List.take_length] at this; exact this
            clear hR
            go_wp2
            go_ret2
            rw [e.out, HO.out]
            exact ⟨_, rfl, MatIn.mono (HR.out.mat (by simp [pick]; omega)) fun b hb => Nat.le_trans HKz.out.size hb, HKz.out.call hK.out (Nat.le_refl _)⟩
      · have e : Hid (rowsM m l = ([], 1)) := by show _ = _; unfold rowsM; rw [MA.out, decide_eq_false (by omega)]; rfl
        go_enter Tryd.func19, Tryd.ntmps19
        go_wp2_with (first | (go_at_call 30; (with_reducible refine Calls.mono (refmay_yes _ m _ ?_ MA.out) ?_); exact HA.out; rintro e w' ⟨rfl, n0, rfl⟩))
        go_ret2
        rw [e.out]
        exact GiveMat.err (keeps_refl _)
    · have e : Hid (rowsM m l = ([], 1)) := by show _ = _; unfold rowsM; rw [MA.out, decide_eq_false (by omega)]; rfl
      go_enter Tryd.func19, Tryd.ntmps19
      go_wp2_with (first | (go_at_call 30; (with_reducible refine Calls.mono (refmay_yes _ m _ ?_ MA.out) ?_); exact HA.out; rintro e w' ⟨rfl, n0, rfl⟩))
      go_ret2
      rw [e.out]
      exact GiveMat.err (keeps_refl _)
end Go.Proofs.YtllfhaocdknejaaDoor
/- append of a whole row, whatever its length; the law's own copy of a matrix. -/
namespace Go.Proofs.YtllfhaocdknejaaDoor
open Go.RowKit
section
variable {P : Program} {w : World}
theorem run_app0 (base : Nat) (t ty e : TypeId) (i : TypeInfo) (ht : P.underlying t = some (.slice e)) (hi : P.info? e = some i)
    (v : Value) (n : Nat) (xs : List Value) (hown : w.ownsRow base e 1 v n xs) (c : Nat) :
    (Builtin.append_ #[t, t] ty #[v, .slice none 0 c]).run P w = .ok v w := by
  rcases hown.2 with ⟨rfl, rfl⟩ | ⟨g, cap, cur, rfl, _, _, hnc, _⟩
  · simp [Builtin.append_, run_underlying ht, sizeOf, typeInfo, hi, Builtin.lenOf, Builtin.firstCells]
  · simp [Builtin.append_, run_underlying ht, sizeOf, typeInfo, hi, Builtin.lenOf, Builtin.firstCells, hnc, storeCells]
end
section
variable {P : Program} {t e : TypeId} {z : Value} {bytes : Nat} (E : ElemTy P t e z bytes) {w : World} {ops : Array Oper} {rest : List Oper} {o : Oper} {a : Act} {Q : Exit → Act → World → Prop}
include E
theorem wp_apps_row (hgd : o.guard = none) (s x : Operand) (ho : o.op = .call { callee := .builtin .append, args := #[s, x], argTypes := #[t, t] })
    (base : Nat) (v : Value) (xs : List Value) (hs : a.eval s = v) (hown : w.ownsRow base e 1 v xs.length xs) (p : Option Addr) (n c : Nat) (r : List UInt8) (hx : a.eval x = .slice p n c) (hr : RowAt w.heap (.slice p n c) r)
    (hlen : (xs.length + r.length) * bytes ≤ 140737488355328) (hbase : base ≤ w.heap.size)
    (h : ∀ v' w', w'.ownsRow base e 1 v' (xs.length + r.length) (xs ++ bytesV r) → Chg (fun k => v.ownBlock = some k) w w' → wpList P ops Q rest (a.put o.dst v') w') : wpList P ops Q (o :: rest) a w := by
  have hr0 := hr
  obtain ⟨p', c', e1, hl, hel⟩ := hr0
  injection e1 with e1 e2 e3
  subst e1 e2 e3
  cases r with
  | nil =>
    cases p with
    | some ad =>
      obtain ⟨i, h2, h3, h4, h5⟩ := info_parts E.hi
      refine wpList_append_own _ hgd s x t ho base e i z 1 bytes E.ht h2 h3 h4 h5 E.hz (by decide) v xs.length xs hs hown ad 0 c [] hx rfl (fun j u hj => by simp at hj) (fun u hu => by simp at hu) ?_ (by simpa using hlen) hbase ?_
      · have hb := E.hb
        have : xs.length * 1 ≤ xs.length * bytes := Nat.mul_le_mul_left _ hb
        simp only [List.length_nil] at hlen
        unfold maxLen; simp at hlen ⊢; omega
      · intro v' w' h6 h7 _
        exact h v' w' (by simpa [bytesV] using h6) ((Chg.refl _ w).grown h7 fun k hk _ => hk)
    | none =>
      obtain ⟨i, h2, h3, h4, h5⟩ := info_parts E.hi
      refine wpList_plain hgd fun K hK => ?_
      have hrun := run_app0 (P := P) (w := w) base t o.type e i E.ht h2 v xs.length xs hown c
      unfold Oper.wp
      simp only [List.length_nil] at hx
      simp [execOp, ho, resolve, invoke, builtin, hs, hx, hrun, Result.andThen]
      exact hK _ _ (h v w (by simpa [bytesV] using hown) (Chg.refl _ w))
  | cons y r =>
    obtain ⟨b, off, u, rfl, _, _⟩ := hel 0 (by simp)
    refine wp_apps E hgd s x ho base v xs hs hown b off _ c (bytesV (y :: r)) hx (bytesV_length _) (bytesV_at hr) (bytesV_one _) (by rw [bytesV_length]; exact hlen) hbase ?_
    intro v' w' h6 h7
    rw [bytesV_length] at h6
    exact h v' w' h6 h7
end
end Go.Proofs.YtllfhaocdknejaaDoor
/- The walk of strongboxref04.down. -/
namespace Go.Proofs.YtllfhaocdknejaaDoor
open Go.RowKit
theorem mat_cell {w : World} {va : Value} {m : List (List UInt8)} (h : MatAt w.heap va m) {i j : Nat} (hi : i < m.length) (hj : j < (m.getD i []).length) :
    ∃ b off c b' off' c', va = .slice (some ⟨b, off, none⟩) m.length c ∧ w.cell? ⟨b, off + i, none⟩ = some (.slice (some ⟨b', off', none⟩) (m.getD i []).length c') ∧ w.cell? ⟨b', off' + j, none⟩ = some (.int .u8 ((LA.at_ m i j).toNat : Int)) := by
  obtain ⟨b, off, c, u, rfl, c1, r1⟩ := mat_row h hi
  obtain ⟨b', off', c', rfl, c2⟩ := row_cell r1 hj
  exact ⟨b, off, c, b', off', c', rfl, c1, c2⟩
theorem row_cells {w : World} {b off n q c : Nat} {m : List (List UInt8)} (s : MatAt w.heap (.slice (some ⟨b, off, none⟩) n q) m) (hr : LA.Rect m c) (hc : 1 ≤ c) {i : Nat} (hi : i < m.length) :
    ∃ b1 o1 q1, w.cell? ⟨b, off + i, none⟩ = some (.slice (some ⟨b1, o1, none⟩) c q1) ∧ ∀ j, j < c → w.cell? ⟨b1, o1 + j, none⟩ = some (.int .u8 ((LA.at_ m i j).toNat : Int)) := by
  have hl := LA.rect_row hr hi
  obtain ⟨b', off', c', b1, o1, q1, e, c1, c2⟩ := mat_cell (j := 0) s hi (by omega)
  injection e with e1 e2 e3
  simp only [Option.some.injEq, Addr.mk.injEq] at e1
  obtain ⟨rfl, rfl, _⟩ := e1
  rw [hl] at c1
  refine ⟨b1, o1, q1, c1, fun j hj => ?_⟩
  obtain ⟨b2, off2, c3, b3, o3, q3, e, c4, c5⟩ := mat_cell (j := j) s hi (by omega)
  injection e with e1 e2 e3
  simp only [Option.some.injEq, Addr.mk.injEq] at e1
  obtain ⟨rfl, rfl, _⟩ := e1
  rw [c1] at c4
  injection c4 with c4
  injection c4 with c4 c6 c7
  simp only [Option.some.injEq, Addr.mk.injEq] at c4
  obtain ⟨rfl, rfl, _⟩ := c4
  exact c5
/-- The rows' places while row A goes up: the places from i on are moved. -/
def mv (A i : Nat) : Nat → Nat := fun q => if q ≤ i then q else if q ≤ A then q - 1 else q
theorem mv_start (A q : Nat) : mv A A q = q := by unfold mv; split <;> (try split) <;> omega
theorem grefinv (x y : UInt8) (w : World) (h : LA.inv x = y) :
    Calls Tryd.prog 29 #[.int .u8 (x.toNat : Int)] w fun e w' => e = .returned (.tuple #[.int .u8 (y.toNat : Int), .bool (decide ((x.toNat : Int) ≠ 0))]) ∧ w = w' := by
  subst h
  have hx := x.toNat_lt
  refine (refinv_any _ w (by omega)).mono ?_
  rintro e w' ⟨rfl, h⟩
  exact ⟨by rw [LA.inv_toNat]; rfl, h⟩
/-- The places of a block of rows while they are moved. -/
def Places (h : Array Obj) (g cap L n : Nat) (σ ρ κ : Nat → Nat) : Prop :=
  ∃ cur : List Value, h[g]? = some (.cells cur.toArray 39 (0, 0)) ∧ cur.length = cap ∧ ∀ q, q < L → cur[q]? = some (.slice (some ⟨ρ (σ q), 0, none⟩) n (κ (σ q)))
theorem Places.cell {w : World} {g cap L n : Nat} {σ ρ κ : Nat → Nat} (p : Places w.heap g cap L n σ ρ κ) {q : Nat} (hq : q < L) :
    w.cell? ⟨g, q, none⟩ = some (.slice (some ⟨ρ (σ q), 0, none⟩) n (κ (σ q))) ∧ w.frozen? ⟨g, q, none⟩ = false := by
  obtain ⟨cur, h1, h2, h3⟩ := p
  refine ⟨by rw [cell_of_row w g q _ _ _ h1]; simpa using h3 q hq, ?_⟩
  unfold World.frozen?; simp only [h1]; simp
theorem Places.set {w : World} {g cap L n : Nat} {σ τ ρ κ : Nat → Nat} (p : Places w.heap g cap L n σ ρ κ) (hL : L ≤ cap) {i k : Nat} (hi : i < L) (hτ : ∀ q, q < L → τ q = if q = i then k else σ q) :
    Places (w.setCell ⟨g, i, none⟩ (.slice (some ⟨ρ k, 0, none⟩) n (κ k))).heap g cap L n τ ρ κ := by
  obtain ⟨cur, h1, h2, h3⟩ := p
  refine ⟨cur.set i (.slice (some ⟨ρ k, 0, none⟩) n (κ k)), ?_, by simp [h2], fun q hq => ?_⟩
  · unfold World.setCell; simp [Array.getElem?_modify, h1]
  · rw [List.getElem?_set, hτ q hq]
    have hiL : i < cur.length := by omega
    by_cases e : i = q
    · subst e; rw [if_pos rfl, if_pos rfl]; simp [hiL]
    · rw [if_neg e, if_neg (fun x => e x.symm)]; exact h3 q hq
theorem Lies.places {B g cap L n : Nat} {F : Nat → Nat → UInt8} {ρ κ : Nat → Nat} {h : Array Obj} (l : Lies B h g cap L n F ρ κ) (A : Nat) : Places h g cap L n (mv A A) ρ κ := by
  obtain ⟨cur, h1, h2, h3⟩ := l.2.1
  exact ⟨cur, h1, h2, fun q hq => by rw [mv_start]; exact h3 q hq⟩
/-- What the reference's down hands back. -/
def RefDowned (w : World) (m : LA.Mat) (n : Nat) (e : Ending) (w' : World) : Prop :=
  ∃ g cap ρ κ, e = .returned (.tuple #[.slice (some ⟨g, 0, none⟩) m.length cap, .int .i64 ((LA.dn m n).2 : Int)]) ∧ Lies w.heap.size w'.heap g cap m.length n (LA.at_ (LA.dn m n).1) ρ κ ∧ Keeps w w'

set_option maxRecDepth 100000 in
set_option maxHeartbeats 16000000 in
theorem refdown_any (va : Value) (m : List (List UInt8)) (n : Nat) (w : World) (ha : MatAt w.heap va m) (hr : LA.Rect m n) (h1 : 1 ≤ m.length) (h2 : m.length ≤ 255) (h3 : 1 ≤ n) (h4 : n ≤ 600) :
    Calls Tryd.prog 33 #[va] w (RefDowned w m n) := by
  obtain ⟨pa, qa, rfl⟩ := seq_shape ha
  obtain ⟨ba, oa, rfl⟩ := mat_addr ha (by omega)
  have HA := Lib.hid ha
  have HR := Lib.hid hr
  clear ha hr
  go_enter Tryd.func33, Tryd.ntmps33
  go_wp2_with fail
  go_loopw [4, 5] (fun v i wr => ∃ k : Nat, k ≤ m.length ∧ i = .int .i64 k ∧ Hid (∃ ρ κ, Grows w.heap.size wr v k n (LA.at_ m) ρ κ) ∧ Hid (Keeps w wr)) (fun _ i _ => m.length - (intOf i).toNat)
  case atStart => exact ⟨0, by omega, rfl, ⟨_, _, Grows.nil _ _ _ _⟩, keeps_refl w⟩
  case round =>
    obtain ⟨k, hk, rfl, hR, hK⟩ := hrel
    by_cases hlt : k < m.length
    · have hlt64 : (k : Int) < (m.length : Int) := by omega
      have hge0 : (0 : Int) ≤ (k : Int) := by omega
      obtain ⟨b1, o1, c1, u1, e5, d1, r1⟩ := mat_row (HA.out.keeps hK.out) hlt
      injection e5 with e6 e7 e8
      simp only [Option.some.injEq, Addr.mk.injEq] at e6
      obtain ⟨rfl, rfl, _⟩ := e6
      subst e8
      clear e7
      have hrl : (m.getD k []).length = n := LA.rect_row HR.out hlt
      obtain ⟨q0, o0, c0, e9, _⟩ := row_cell (j := 0) r1 (by omega)
      subst e9
      rw [hrl] at d1 r1
      have HL0 : Hid ((m.getD k []).length = n) := hrl
      have HW : Hid (∀ j, j < n → (bytesV (m.getD k []))[j]? = some (.int .u8 ((LA.at_ m k j).toNat : Int))) := fun j hj => by
        have := wide_row (m := m) (k := k) (more := 0) hrl (us := bytesV (m.getD k [])) (by simp) j (by omega)
        exact this
      have hsz := hK.out.size
      have hb1 := cell_lt d1
      have R5 : Hid (RowAt (wr.alloc (.cells #[] 5)).heap (.slice (some ⟨q0, o0, none⟩) n c0) (m.getD k [])) := SeqAt.keeps r1 ((Kept.refl _ _).alloc (Nat.le_refl _) _)
      clear r1 hrl
      generalize m.getD k [] = r at *
      go_wp2_with (at_builtin; refine wp_apps elRow rfl _ _ rfl wr.heap.size _ [] rfl (own_empty _ _ _ (Nat.le_refl _)) q0 o0 n c0 (bytesV r) rfl (by rw [bytesV_length]; exact HL0.out) (bytesV_at R5.out) (bytesV_one r) ?c1 ?c2 ?_)
      case c1 => have := HL0.out; simp only [List.length_nil, bytesV_length]; omega
      case c2 => simp
      intro v6 w6 hown6 hchg6
      have hT : Hid (Chg (fun x => wr.heap.size ≤ x) wr w6) := (((Chg.refl _ wr).alloc _).trans (hchg6.mono fun x _ h => by simp only [Value.ownBlock, Option.some.injEq] at h; omega))
      have hown7 : w6.ownsRow wr.heap.size 5 1 v6 n (bytesV r) := by
        have := hown6
        rw [bytesV_length, HL0.out] at this; simpa using this
      obtain ⟨g1, cap1, rfl, hg1, hl1⟩ := hown7.form (by omega)
      have HCAP : Hid (n ≤ cap1) := own_cap hown7
      have hF : Hid (RowF w6.heap g1 n (LA.at_ m k)) := rowF_own hown7 fun j hj => HW.out j hj
      clear hown6 hchg6 hown7
      obtain ⟨ρ, κ, us, hu1, hu2, hu3, hu4, hu5⟩ := hR.out
      have HO : Hid (w6.ownsRow w.heap.size 39 1 u4 us.length us) := owns_chg hu1 hT.out fun b hb e => by have := (own_block hu1 b hb).2.1; omega
      have HU1 := Lib.hid hu1
      have HU2 := Lib.hid hu2
      have HU3 := Lib.hid hu3
      have HU4 := Lib.hid hu4
      have HU5 := Lib.hid hu5
      have hs2 := hT.out.size
      clear hu1 hu2 hu3 hu4 hu5
      go_wp2_with (at_builtin; refine wp_app1 elRows rfl _ _ rfl w.heap.size u4 us rfl (HO.out.alloc _) _ (.slice (some ⟨g1, 0, none⟩) n cap1) rfl ?d1 rfl ?d2 ?d3 ?_)
      case d1 => simp [go_sem]
      case d2 => have := HU2.out; omega
      case d3 => simp; omega
      intro v' w3 hown hchg
      have ca : Chg (fun x => wr.heap.size ≤ x) wr (w6.alloc (.cells #[.slice (some ⟨g1, 0, none⟩) n cap1] 39)) := hT.out.alloc _
      have hpush : Hid (∃ ρ κ, Grows w.heap.size w3 v' (k + 1) n (LA.at_ m) ρ κ) := ⟨_, _, Grows.push (f := LA.at_ m k) HU2.out HU3.out HU4.out HU5.out ca (fun b hb e => by omega) hg1 (Nat.le_trans hsz hg1) (hF.out.chg (T := fun _ => False) ((Chg.refl _ w6).alloc _) (fun x => x)) HCAP.out hown hchg
        (fun b hb => by
          obtain ⟨_, h5, h6⟩ := own_block HO.out b hb
          exact typH_chg (T := fun _ => False) ((Chg.refl _ w6).alloc _) h6 (fun x => x)) (fun _ _ => rfl)⟩
      have hk2 : Hid (Keeps w w3) := ((hK.out.chg.trans (ca.mono fun b hb e => by omega)).trans (hchg.mono fun b hb0 hb => (own_block HU1.out b hb).1)).keeps fun b hb hx => by omega
      clear hown hchg ca
      go_wp2
      exact ⟨⟨k + 1, by omega, by go_num, hpush, hk2⟩, by simp [intOf]; omega⟩
    · obtain rfl : k = m.length := by omega
      obtain ⟨ρ0, κ0, hG⟩ := hR.out
      obtain ⟨g, cap, rfl, hl⟩ := hG.lies (by omega)
      have HL := Lib.hid hl
      have HK2 := hK
      clear hG hl hR hK
      have i1 : (0 : Int) < (m.length : Int) := by omega
      obtain ⟨w2, rfl⟩ : ∃ w2 : World, w2 = wr := ⟨_, rfl⟩
      go_wp2_with fail
      go_loopw [6, 7] (fun d i wr => ∃ c : Nat, c ≤ n ∧ i = .int .i64 c ∧ d = .int .i64 ((LA.dn m c).2 : Int) ∧ Hid (∃ ρ κ, Lies w.heap.size wr.heap g cap m.length n (LA.at_ (LA.dn m c).1) ρ κ) ∧ Hid (Chg (fun b => w.heap.size ≤ b) w2 wr)) (fun _ i _ => n - (intOf i).toNat)
      case atStart => exact ⟨0, by omega, rfl, rfl, ⟨ρ0, κ0, HL.out⟩, Chg.refl _ _⟩
      case round =>
        obtain ⟨c, hc, rfl, rfl, hLr, hC⟩ := hrel
        have hsl : (LA.dn m c).1.length = m.length := (LA.dn_length m c).1
        have hd : (LA.dn m c).2 ≤ m.length := (LA.dn_length m c).2
        have hrc : LA.Rect (LA.dn m c).1 n := dn_rect HR.out c
        have hstep : LA.dn m (c + 1) = LA.step c (LA.dn m c) := rfl
        have HST := Lib.hid hstep
        have HDN : Hid (c = n → LA.dn m n = LA.dn m c) := fun e => by rw [e]
        clear hstep
        generalize LA.dn m c = s at *
        obtain ⟨ρ, κ, hl⟩ := hLr.out
        have HLR := Lib.hid hl
        have HRC := Lib.hid hrc
        have HSL := Lib.hid hsl
        have HKK : Hid (Keeps w wr) := (HK2.out.chg.trans (hC.out)).keeps fun b hb h => by omega
        obtain ⟨zb, zo, zq, z1, _⟩ := row_cells (HA.out.keeps HKK.out) HR.out h3 (i := 0) (by omega)
        have z1 : wr.cell? ⟨ba, oa, none⟩ = some (.slice (some ⟨zb, zo, none⟩) n zq) := z1
        clear hl hrc hLr hsl
        obtain ⟨d, hdd⟩ : ∃ d, d = s.2 := ⟨_, rfl⟩
        rw [← hdd] at hd ⊢
        have HDD := Lib.hid hdd
        clear hdd
        have hc0 : (0 : Int) ≤ (c : Int) := by omega
        by_cases hcn : c < n
        · have hc64 : (c : Int) < (n : Int) := by omega
          go_wp2_with fail
          clear z1
          go_loop [8] (fun a => ∃ A : Nat, d ≤ A ∧ A ≤ m.length ∧ a = .int .i64 A ∧ Hid (∀ i, d ≤ i → i < A → LA.at_ s.1 i c = 0)) (fun a => m.length - (intOf a).toNat)
          case atStart => exact ⟨d, Nat.le_refl _, hd, rfl, fun i _ _ => by omega⟩
          case round =>
            obtain ⟨A, hA1, hA2, rfl, hz⟩ := hrel
            have hA0 : (0 : Int) ≤ (A : Int) := by omega
            by_cases hAl : A < m.length
            · have hA64 : (A : Int) < (m.length : Int) := by omega
              obtain ⟨c1, f1⟩ := HLR.out.cell hAl
              obtain ⟨_, c2⟩ := (HLR.out.row hAl).2 c hcn
              rw [← cell_of] at c1 c2
              by_cases hv : LA.at_ s.1 A c = 0
              · have HZ : Hid (∀ i, d ≤ i → i < A + 1 → LA.at_ s.1 i c = 0) := fun i h1 h2 => by
                  by_cases e : i = A
                  · subst e; exact hv
                  · exact hz.out i h1 (by omega)
                rw [hv] at c2
                change wr.cell? _ = some (.int .u8 0) at c2
                clear hv f1
                go_wp2
                go_round
                case rel => exact ⟨A + 1, by omega, by omega, by go_num, HZ⟩
                case measure => simp [intOf]; omega
              · have e0 : (((LA.at_ s.1 A c).toNat : Int) == 0) = false := bz_no _ hv
                have HFO : Hid (LA.Found s c A) := ⟨by rw [← HDD.out]; exact hA1, by rw [HSL.out]; exact hAl, hv, fun i h1 h2 => hz.out i (by rw [HDD.out]; exact h1) h2⟩
                have hq0 : ((A : Int) == (m.length : Int)) = false := beq_eq_false_iff_ne.2 (by omega)
                have hle := HLR.out.le
                have hdL : d < m.length := by omega
                have HX0 := Lib.hid (HLR.out.places A)
                have HGL := HLR.out.lt
                clear hv f1
                go_wp2_with fail
                clear c1 c2
                obtain ⟨wq, rfl⟩ : ∃ wq : World, wq = wr := ⟨_, rfl⟩
                go_loopw [10] (fun i wx => ∃ I : Nat, d ≤ I ∧ I ≤ A ∧ i = .int .i64 I ∧ Hid (Places wx.heap g cap m.length n (mv A I) ρ κ) ∧ Hid (Chg (fun b => b = g) wq wx)) (fun i _ => (intOf i).toNat)
                case atStart => exact ⟨A, hA1, Nat.le_refl _, rfl, HX0, Chg.refl _ _⟩
                case round =>
                  obtain ⟨I, hI1, hI2, rfl, hP, hCg⟩ := hrel
                  by_cases hId : d < I
                  · obtain ⟨J, rfl⟩ : ∃ J, I = J + 1 := ⟨I - 1, by omega⟩
                    have g1 : decide ((d : Int) < ((J + 1 : Nat) : Int)) = true := decide_eq_true (by omega)
                    have g1' : decide (d < J + 1) = true := decide_eq_true (by omega)
                    have g1'' : (d : Int) < ((J + 1 : Nat) : Int) := by omega
                    have g1''' : (d : Int) < (J : Int) + 1 := by omega
                    obtain ⟨p1, _⟩ := hP.out.cell (q := J) (by omega)
                    obtain ⟨p2, f2⟩ := hP.out.cell (q := J + 1) (by omega)
                    rw [show mv A (J + 1) J = J from by unfold mv; rw [if_pos (by omega)]] at p1
                    have HPN : Hid (Places (wr.setCell ⟨g, J + 1, none⟩ (.slice (some ⟨ρ J, 0, none⟩) n (κ J))).heap g cap m.length n (mv A J) ρ κ) := hP.out.set (i := J + 1) (k := J) (τ := mv A J) hle (by omega) fun q hq => by
                      unfold mv
                      by_cases e : q = J + 1
                      · rw [if_neg (by omega), if_pos (by omega), if_pos e]; omega
                      · rw [if_neg e]
                        by_cases e2 : q ≤ J
                        · rw [if_pos e2, if_pos (by omega)]
                        · rw [if_neg e2, if_neg (show ¬ q ≤ J + 1 by omega)]
                    have j1 : (J : Int) < (m.length : Int) := by omega
                    have j2 : (0 : Int) ≤ (J : Int) := by omega
                    have j3 : (J : Int) + 1 < (m.length : Int) := by omega
                    have j4 : (0 : Int) ≤ (J : Int) + 1 := by omega
                    have j5 : ((J : Int) + 1).toNat = J + 1 := by omega
                    have j6 : (J : Int) + 1 - 1 = (J : Int) := by omega
                    go_wp2
                    exact ⟨⟨J, by omega, by omega, by go_num, HPN, hCg.out.setCell (p := ⟨g, J + 1, none⟩) (fun _ => rfl) _⟩, by simp [intOf]⟩
                  · obtain rfl : d = I := by omega
                    obtain ⟨p2, f2⟩ := hP.out.cell (q := d) hdL
                    have hd64 : (d : Int) < (m.length : Int) := by omega
                    have hd0 : (0 : Int) ≤ (d : Int) := by omega
                    have HCGS : Hid (Chg (fun b => b = g) wq (wr.setCell ⟨g, d, none⟩ (.slice (some ⟨ρ A, 0, none⟩) n (κ A)))) := hCg.out.setCell (p := ⟨g, d, none⟩) (fun _ => rfl) _
                    have HROT : Hid (Lies w.heap.size (wr.setCell ⟨g, d, none⟩ (.slice (some ⟨ρ A, 0, none⟩) n (κ A))).heap g cap m.length n (fun i => LA.at_ s.1 (LA.ri d A i)) (fun i => ρ (LA.ri d A i)) (fun i => κ (LA.ri d A i))) := by
                      obtain ⟨cur2, q1, q2, q3⟩ := hP.out.set (i := d) (k := A) (τ := LA.ri d A) hle hdL (fun q hq => by
                        unfold LA.ri mv
                        by_cases e : q = d
                        · rw [if_neg (by omega), if_pos e, if_pos e]
                        · rw [if_neg e, if_neg e]
                          by_cases e2 : q < d
                          · rw [if_pos e2, if_pos (by omega)]
                          · rw [if_neg e2, if_neg (show ¬ q ≤ d by omega)])
                      exact HLR.out.placed (LA.ri d A) (fun i hi => LA.ri_lt hA1 hAl hi) (fun i k _ _ e => ri_inj hA1 e) HCGS.out cur2 q1 q2 q3
                    have HCH5 : Hid (Chg (fun b => w.heap.size ≤ b) w2 (wr.setCell ⟨g, d, none⟩ (.slice (some ⟨ρ A, 0, none⟩) n (κ A)))) := hC.out.trans (HCGS.out.mono fun b _ h => by rw [h]; exact HLR.out.1)
                    obtain ⟨ρ', hρ'⟩ : ∃ ρ' : Nat → Nat, ρ' = fun i => ρ (LA.ri d A i) := ⟨_, rfl⟩
                    obtain ⟨κ', hκ'⟩ : ∃ κ' : Nat → Nat, κ' = fun i => κ (LA.ri d A i) := ⟨_, rfl⟩
                    have hrd : LA.ri d A d = A := by unfold LA.ri; rw [if_neg (by omega), if_pos rfl]
                    have hr1 : Hid (ρ' d = ρ A) := by show _ = _; rw [hρ']; show ρ (LA.ri d A d) = _; rw [hrd]
                    have HFD : Hid ((fun i => LA.at_ s.1 (LA.ri d A i)) d = LA.at_ s.1 A) := by show LA.at_ s.1 (LA.ri d A d) = _; rw [hrd]
                    have HCS : Hid (∀ i j, i < m.length → clearF d c m.length (fun j => LA.mul (LA.at_ s.1 A j) (LA.inv (LA.at_ s.1 A c))) (fun i => LA.at_ s.1 (LA.ri d A i)) i j = LA.at_ (LA.dn m (c + 1)).1 i j) := fun i j hi => by
                      rw [HST.out]; exact clearF_step HRC.out HFO.out HSL.out (by rw [← HDD.out]; omega) HDD.out hi j
                    have HS2 : Hid ((LA.dn m (c + 1)).2 = d + 1) := by show _ = _; rw [HST.out, step_done1 HFO.out (by rw [HSL.out, ← HDD.out]; omega), HDD.out]
                    rw [← hρ', ← hκ'] at HROT
                    clear hρ' hκ' hrd
                    generalize hPf : LA.at_ s.1 A = f at *
                    generalize (fun i => LA.at_ s.1 (LA.ri d A i)) = F at *
                    generalize ρ A = r at *
                    generalize κ A = κr at *
                    obtain ⟨y, hy⟩ : ∃ y, LA.inv (f c) = y := ⟨_, rfl⟩
                    rw [hy] at HCS
                    have HY := Lib.hid hy
                    clear hy hPf
                    have HR5 : Hid (RowF (wr.setCell ⟨g, d, none⟩ (.slice (some ⟨r, 0, none⟩) n κr)).heap r n f) := by
                      have := HROT.out.row hdL
                      rw [hr1.out, HFD.out] at this; exact this
                    have hrg : r ≠ g := by have := HROT.out.ne hdL; rw [hr1.out] at this; exact this
                    have hgr : g ≠ r := fun e => hrg e.symm
                    obtain ⟨_, c3⟩ := HR5.out.2 c hcn
                    rw [← cell_of] at c3
                    have c3' : wr.cell? ⟨r, c, none⟩ = some (.int .u8 ((f c).toNat : Int)) := by
                      have := c3
                      rw [cell_of, cellH_set _ _ _ _ _ _ _ (by rw [← cell_of]; exact p2), if_neg (fun h => hrg h.1.symm), ← cell_of] at this
                      exact this
                    go_wp2_with fail
                    refine Calls.mono (grefinv _ y _ HY.out) ?_
                    rintro e w' ⟨rfl, rfl⟩
                    clear c3 c3' p2 f2
                    generalize wr.setCell ⟨g, d, none⟩ (.slice (some ⟨r, 0, none⟩) n κr) = w6 at *
                    go_wp2_with fail
                    go_loopw [13] (fun i wx => ∃ k : Nat, k ≤ n ∧ i = .int .i64 k ∧ Hid (RowF wx.heap r n (fun j => if j < k then LA.mul (f j) y else f j)) ∧ Hid (Chg (fun b => b = r) w6 wx)) (fun i _ => n - (intOf i).toNat)
                    case atStart => exact ⟨0, by omega, rfl, HR5.out.congr fun j _ => by (try dsimp only); rw [if_neg (by omega)], Chg.refl _ _⟩
                    case round =>
                      obtain ⟨k, hk, rfl, hRk, hCk⟩ := hrel
                      by_cases hkn : k < n
                      · have k64 : (k : Int) < (n : Int) := by omega
                        have k0 : (0 : Int) ≤ (k : Int) := by omega
                        obtain ⟨f1, t1⟩ := hRk.out.2 k hkn
                        rw [← froz_of] at f1
                        rw [← cell_of] at t1
                        dsimp only at t1
                        rw [if_neg (by omega)] at t1
                        have HN : Hid (∀ z : UInt8, LA.mul (f k) y = z → RowF (wr.setCell ⟨r, k, none⟩ (.int .u8 (z.toNat : Int))).heap r n (fun j => if j < k + 1 then LA.mul (f j) y else f j)) := fun z hz =>
                          (hRk.out.set hkn z).congr fun j hj => by
                            (try dsimp only)
                            by_cases e : j = k
                            · subst e; rw [if_pos rfl, if_pos (by omega), hz]
                            · rw [if_neg e]
                              by_cases e2 : j < k
                              · rw [if_pos e2, if_pos (by omega)]
                              · rw [if_neg e2, if_neg (by omega)]
                        have HCN : Hid (∀ z : UInt8, Chg (fun b => b = r) w6 (wr.setCell ⟨r, k, none⟩ (.int .u8 (z.toNat : Int)))) := fun z => hCk.out.setCell (p := ⟨r, k, none⟩) (fun _ => rfl) _
                        generalize f k = x at *
                        go_wp2_with fail
                        refine Calls.mono (grefmul x y _) ?_
                        rintro e w' ⟨rfl, rfl⟩
                        go_wp2
                        exact ⟨⟨k + 1, by omega, by go_num, HN.out _ rfl, HCN.out _⟩, by simp [intOf]; omega⟩
                      · obtain rfl : k = n := by omega
                        have HL7 : Hid (Lies w.heap.size wr.heap g cap m.length k (clearF d c 0 (fun j => LA.mul (f j) y) F) ρ' κ') := by
                          have := HROT.out.over hdL (w' := wr) (by rw [hr1.out]; exact hCk.out) (f := fun j => LA.mul (f j) y) (by rw [hr1.out]; exact hRk.out.congr fun j hj => by (try dsimp only); rw [if_pos hj])
                          exact this.congr fun i hi j hj => by
                            unfold clearF
                            by_cases e : i = d
                            · rw [if_pos e, if_pos e]
                            · rw [if_neg e, if_neg e, if_neg (by omega)]
                        have HCH7 : Hid (Chg (fun b => w.heap.size ≤ b) w2 wr) := HCH5.out.trans (hCk.out.mono fun b _ h => by
                          have h1 := (HROT.out.2.2.1 d hdL).1
                          rw [hr1.out] at h1
                          rw [h]; exact h1)
                        go_wp2_with fail
                        go_loopw [14] (fun i wx => ∃ k' : Nat, k' ≤ m.length ∧ i = .int .i64 k' ∧ Hid (Lies w.heap.size wx.heap g cap m.length k (clearF d c k' (fun j => LA.mul (f j) y) F) ρ' κ') ∧ Hid (Chg (fun b => w.heap.size ≤ b) w2 wx)) (fun i _ => m.length - (intOf i).toNat)
                        case atStart => exact ⟨0, by omega, rfl, HL7, HCH7⟩
                        case round =>
                          obtain ⟨q, hq, rfl, hLk, hCq⟩ := hrel
                          by_cases hql : q < m.length
                          · have q64 : (q : Int) < (m.length : Int) := by omega
                            have q0 : (0 : Int) ≤ (q : Int) := by omega
                            obtain ⟨e1, _⟩ := hLk.out.cell hql
                            obtain ⟨_, e2⟩ := (hLk.out.row hql).2 c hcn
                            rw [← cell_of] at e1 e2
                            by_cases hqd : q = d
                            · have hqb : ((q : Int) != (d : Int)) = false := by rw [bne_eq_false_iff_eq, hqd]
                              have HLn : Hid (Lies w.heap.size wr.heap g cap m.length k (clearF d c (q + 1) (fun j => LA.mul (f j) y) F) ρ' κ') := by
                                have := hLk.out
                                rw [hqd] at this ⊢
                                rw [clearF_same]; exact this
                              obtain ⟨wq2, rfl⟩ : ∃ wq2 : World, wq2 = wr := ⟨_, rfl⟩
                              generalize clearF d c q (fun j => LA.mul (f j) y) F q c = by0 at *
                              clear hqd
                              go_wp2_with fail
                              clear e1 e2
                              go_loopw [16] (fun i wx => i = .int .i64 ((0 : Nat) : Int) ∧ ∃ n0, wx = wq2.drewN n0) (fun i _ => 0)
                              case atStart => exact ⟨rfl, 0, rfl⟩
                              case round =>
                                obtain ⟨rfl, n0, rfl⟩ := hrel
                                have HLn : Hid (Lies w.heap.size (wq2.drewN n0).heap g cap m.length k (clearF d c (q + 1) (fun j => LA.mul (f j) y) F) ρ' κ') := HLn
                                have hCq : Hid (Chg (fun b => w.heap.size ≤ b) w2 (wq2.drewN n0)) := hCq
                                go_wp2
                                exact ⟨⟨q + 1, by omega, by go_num, HLn, hCq⟩, by simp [intOf]; omega⟩
                            · have hqb : ((q : Int) != (d : Int)) = true := by rw [bne_iff_ne]; omega
                              have hRq : Hid (RowF wr.heap (ρ' q) k (F q)) := (hLk.out.row hql).congr fun j _ => by unfold clearF; rw [if_neg hqd, if_neg (by omega)]
                              have hRd : Hid (RowF wr.heap r k (fun j => LA.mul (f j) y)) := by
                                have := hLk.out.row hdL
                                rw [hr1.out] at this
                                exact this.congr fun j _ => by unfold clearF; rw [if_pos rfl]
                              have e3 : wr.cell? ⟨ρ' q, c, none⟩ = some (.int .u8 ((F q c).toNat : Int)) := by
                                rw [e2]; unfold clearF; rw [if_neg hqd, if_neg (by omega)]
                              clear e2
                              have hne : Hid (r ≠ ρ' q) := fun e => hqd (hLk.out.inj hql hdL (by rw [hr1.out]; exact e.symm))
                              have hgn : Hid (g ≠ ρ' q) := fun e => hLk.out.ne hql e.symm
                              have hbk : Hid (w.heap.size ≤ ρ' q) := (hLk.out.2.2.1 q hql).1
                              have HOV : Hid (∀ wx, Chg (fun b => b = ρ' q) wr wx → RowF wx.heap (ρ' q) k (fun j => F q j ^^^ LA.mul (LA.mul (f j) y) (F q c)) → Lies w.heap.size wx.heap g cap m.length k (clearF d c (q + 1) (fun j => LA.mul (f j) y) F) ρ' κ') := fun wx hcx hfx => by
                                rw [clearF_next hqd]; exact hLk.out.over hql hcx hfx
                              obtain ⟨wq2, rfl⟩ : ∃ wq2 : World, wq2 = wr := ⟨_, rfl⟩
                              have E1 := Lib.hid e1
                              generalize ρ' q = rk at *
                              generalize κ' q = κk at *
                              generalize F q = fk at *
                              generalize fk c = x at *
                              clear hqd
                              go_wp2_with fail
                              clear e1 e3
                              go_loopw [16] (fun i wx => ∃ t : Nat, t ≤ k ∧ i = .int .i64 t ∧ Hid (RowF wx.heap rk k (fun j => if j < t then fk j ^^^ LA.mul (LA.mul (f j) y) x else fk j)) ∧ Hid (Chg (fun b => b = rk) wq2 wx)) (fun i _ => k - (intOf i).toNat)
                              case atStart => exact ⟨0, by omega, rfl, hRq.out.congr fun j _ => by (try dsimp only); rw [if_neg (by omega)], Chg.refl _ _⟩
                              case round =>
                                obtain ⟨t, ht, rfl, hRt, hCt⟩ := hrel
                                by_cases htk : t < k
                                · have t64 : (t : Int) < (k : Int) := by omega
                                  have t0 : (0 : Int) ≤ (t : Int) := by omega
                                  obtain ⟨f1, t1⟩ := hRt.out.2 t htk
                                  rw [← froz_of] at f1
                                  rw [← cell_of] at t1
                                  dsimp only at t1
                                  rw [if_neg (by omega)] at t1
                                  obtain ⟨_, t2⟩ := (hRd.out.chg hCt.out hne.out).2 t htk
                                  rw [← cell_of] at t2
                                  dsimp only at t2
                                  have t3 : wr.cell? ⟨g, q, none⟩ = some (.slice (some ⟨rk, 0, none⟩) k κk) := by
                                    rw [cell_of]; exact cellH_chg hCt.out (by rw [← cell_of]; exact E1.out) hgn.out
                                  have HN : Hid (∀ z : UInt8, fk t ^^^ LA.mul x (LA.mul (f t) y) = z → RowF (wr.setCell ⟨rk, t, none⟩ (.int .u8 (z.toNat : Int))).heap rk k (fun j => if j < t + 1 then fk j ^^^ LA.mul (LA.mul (f j) y) x else fk j)) := fun z hz =>
                                    (hRt.out.set htk z).congr fun j hj => by
                                      (try dsimp only)
                                      by_cases e : j = t
                                      · subst e; rw [if_pos rfl, if_pos (by omega), ← hz, LA.mul_comm x]
                                      · rw [if_neg e]
                                        by_cases e2 : j < t
                                        · rw [if_pos e2, if_pos (by omega)]
                                        · rw [if_neg e2, if_neg (by omega)]
                                  have HCN : Hid (∀ z : UInt8, Chg (fun b => b = rk) wq2 (wr.setCell ⟨rk, t, none⟩ (.int .u8 (z.toNat : Int)))) := fun z => hCt.out.setCell (p := ⟨rk, t, none⟩) (fun _ => rfl) _
                                  have hx := gxor (fk t) (LA.mul x (LA.mul (f t) y))
                                  generalize LA.mul (f t) y = z at *
                                  generalize fk t = v0 at *
                                  go_wp2_with fail
                                  refine wp_region_tail (List.dropLast _) (List.getLast _ (List.cons_ne_nil _ _)) (List.dropLast_concat_getLast _).symm (by kernel_rfl) (by kernel_rfl) (by kernel_rfl) (by kernel_rfl) rfl (by kernel_rfl) ?_; simp only [List.dropLast_cons_cons, List.dropLast_singleton, List.getLast_cons_cons, List.getLast_singleton]; (repeat (go_big_quiet_step ((go_at_call 21; refine Calls.mono (grefmul _ _ _) ?_; rintro e w' ⟨rfl, rfl⟩; exact ⟨rfl, _, rfl⟩)))); refine wpQuiet_nil ?_; intro _ hw1; obtain ⟨nq, hw2⟩ := hw1; subst hw2
                                  go_wp2
                                  exact ⟨⟨t + 1, by omega, by go_num, (by rw [← LA.xor_toNat]; exact HN.out _ rfl), (by rw [← LA.xor_toNat]; exact HCN.out _)⟩, by simp [intOf]; omega⟩
                                · obtain rfl : t = k := by omega
                                  have HL8 : Hid (Lies w.heap.size wr.heap g cap m.length t (clearF d c (q + 1) (fun j => LA.mul (f j) y) F) ρ' κ') := HOV.out wr hCt.out (hRt.out.congr fun j hj => by (try dsimp only); rw [if_pos hj])
                                  have HC8 : Hid (Chg (fun b => w.heap.size ≤ b) w2 wr) := hCq.out.trans (hCt.out.mono fun b _ h => by rw [h]; exact hbk.out)
                                  go_wp2
                                  exact ⟨⟨q + 1, by omega, by go_num, HL8, HC8⟩, by simp [intOf]; omega⟩
                          · obtain rfl : q = m.length := by omega
                            have HL9 : Hid (Lies w.heap.size wr.heap g cap m.length k (LA.at_ (LA.dn m (c + 1)).1) ρ' κ') := hLk.out.congr fun i hi j _ => HCS.out i j hi
                            go_wp2
                            exact ⟨⟨c + 1, by omega, by go_num, by rw [HS2.out]; go_num, ⟨ρ', κ', HL9.out⟩, hCq⟩, by simp [intOf]; omega⟩
            · obtain rfl : A = m.length := by omega
              have hq0 : ((m.length : Int) == (m.length : Int)) = true := by simp
              have HSN : Hid (LA.step c s = s) := step_none (by rw [HSL.out, ← HDD.out]; exact hA1) fun i h1 h2 => hz.out i (by rw [HDD.out]; exact h1) (by rw [HSL.out] at h2; exact h2)
              go_wp2
              exact ⟨⟨c + 1, by omega, by go_num, by rw [HST.out, HSN.out, HDD.out], ⟨ρ, κ, by rw [HST.out, HSN.out]; exact HLR.out⟩, hC⟩, by simp [intOf]; omega⟩
        · obtain rfl : c = n := by omega
          have HE := HDN.out rfl
          have HEE := Lib.hid HE
          clear HE
          go_wp2
          go_ret2
          exact ⟨g, cap, ρ, κ, by rw [HEE.out, HDD.out]; rfl, by rw [HEE.out]; exact HLR.out, HKK.out⟩
end Go.Proofs.YtllfhaocdknejaaDoor
/- The walks of strongboxref04.Down and Rank. -/
namespace Go.Proofs.YtllfhaocdknejaaDoor
open Go.RowKit
theorem gave {f : FuncId} {xs : Array Value} {w : World} {r r' : List (List UInt8) × Int} (h : Calls Tryd.prog f xs w (GiveMat w r)) (e : r = r') : Calls Tryd.prog f xs w (GiveMat w r') := e ▸ h
set_option maxRecDepth 100000 in
set_option maxHeartbeats 4000000 in
theorem refmay04_any (va : Value) (m : List (List UInt8)) (w : World) (ha : MatAt w.heap va m) :
    Calls Tryd.prog 31 #[va] w fun e w' => e = .returned (.bool (mayB 255 m)) ∧ ∃ n, w' = w.drewN n := by
  obtain ⟨pa, qa, rfl⟩ := seq_shape ha
  have HA := Lib.hid ha
  by_cases h1 : 1 ≤ m.length
  · by_cases h2 : m.length ≤ 255
    · obtain ⟨b1, o1, p1, q1, rfl, d1⟩ := row0' ha h1
      obtain ⟨na, hna⟩ : ∃ na, na = (m.headD []).length := ⟨_, rfl⟩
      rw [← hna] at d1
      have HNA := Lib.hid hna
      clear hna ha
      have i1 : (0 : Int) < (m.length : Int) := by omega
      have i2 : decide ((m.length : Int) < 1) = false := decide_eq_false (by omega)
      have i3 : decide (255 < (m.length : Int)) = false := decide_eq_false (by omega)
      by_cases h3 : 1 ≤ na
      · have i4 : decide ((na : Int) < 1) = false := decide_eq_false (by omega)
        by_cases h4 : na ≤ 255
        · have i5 : decide (255 < (na : Int)) = false := decide_eq_false (by omega)
          go_enter Tryd.func31, Tryd.ntmps31
          go_wp2
          go_loopw [3] (fun i wr => ∃ k : Nat, k ≤ m.length ∧ i = .int .i64 k ∧ Hid (∀ j (h : j < m.length), j < k → m[j].length = na) ∧ ∃ n, wr = w.drewN n) (fun i _ => m.length - (intOf i).toNat)
          case atStart => exact ⟨0, by omega, rfl, fun j _ h => by omega, 0, rfl⟩
          case round =>
            obtain ⟨k, hk, rfl, hno, n0, rfl⟩ := hrel
            by_cases hlt : k < m.length
            · obtain ⟨b2, o2, c2, u2, e2, c1, r1⟩ := mat_row HA.out hlt
              injection e2 with e3 e4 e5
              injection e3 with e3
              injection e3 with e6 e7
              subst e6 e7
              obtain ⟨p2, q2, rfl⟩ := seq_shape r1
              have hg : m.getD k [] = m[k] := by rw [List.getD_eq_getElem?_getD, List.getElem?_eq_getElem hlt]; rfl
              rw [hg] at c1
              obtain ⟨lk, hlk⟩ : ∃ lk, lk = m[k].length := ⟨_, rfl⟩
              rw [← hlk] at c1
              have HLK := Lib.hid hlk
              have hlt64 : (k : Int) < (m.length : Int) := by omega
              clear hg r1 hlk e4 e5
              by_cases x3 : lk = na
              · have hb : ((lk : Int) != (na : Int)) = false := by rw [bne_eq_false_iff_eq, x3]
                have HO : Hid (∀ j (h : j < m.length), j < k + 1 → m[j].length = na) := fun j h hj => by
                  by_cases e : j = k
                  · subst e; rw [← HLK.out]; exact x3
                  · exact hno.out j h (by omega)
                clear x3
                go_wp2
                go_region
                all_goals
                  go_wp2
                  exact ⟨⟨k + 1, by omega, rfl, HO, _, rfl⟩, by simp [intOf]; omega⟩
              · have hb : ((lk : Int) != (na : Int)) = true := by rw [bne_iff_ne]; omega
                have HE : Hid (mayB 255 m = false) := by
                  refine decide_eq_false fun h => x3 ?_
                  rw [HLK.out, HNA.out]; exact h.2.2.2.2 _ (List.getElem_mem hlt)
                clear x3
                go_wp2
                go_region
                all_goals
                  go_wp2
                  go_ret
                  exact ⟨by rw [HE.out]; rfl, _, rfl⟩
            · obtain rfl : k = m.length := by omega
              have HE : Hid (mayB 255 m = true) := by
                refine mayB_iff.2 ⟨h1, h2, by rw [← HNA.out]; omega, by rw [← HNA.out]; omega, fun r hr => ?_⟩
                obtain ⟨j, hj, rfl⟩ := List.getElem_of_mem hr
                rw [← HNA.out]; exact hno.out j hj hj
              go_wp2
              go_ret
              exact ⟨by rw [HE.out]; rfl, _, rfl⟩
        · have i5 : decide (255 < (na : Int)) = true := decide_eq_true (by omega)
          have HE : Hid (mayB 255 m = false) := decide_eq_false fun h => h4 (by rw [HNA.out]; exact h.2.2.2.1)
          go_enter Tryd.func31, Tryd.ntmps31
          go_wp2
          go_ret
          exact ⟨by rw [HE.out]; rfl, 0, rfl⟩
      · have i4 : decide ((na : Int) < 1) = true := decide_eq_true (by omega)
        have HE : Hid (mayB 255 m = false) := decide_eq_false fun h => h3 (by rw [HNA.out]; exact h.2.2.1)
        go_enter Tryd.func31, Tryd.ntmps31
        go_wp2
        go_ret
        exact ⟨by rw [HE.out]; rfl, 0, rfl⟩
    · have HE : Hid (mayB 255 m = false) := decide_eq_false fun h => h2 h.2.1
      have i3 : decide (255 < (m.length : Int)) = true := decide_eq_true (by omega)
      clear ha
      go_enter Tryd.func31, Tryd.ntmps31
      go_wp2
      go_ret
      exact ⟨by rw [HE.out]; rfl, 0, rfl⟩
  · have HE : Hid (mayB 255 m = false) := decide_eq_false fun h => h1 h.1
    have i3 : decide ((m.length : Int) < 1) = true := decide_eq_true (by omega)
    clear ha
    go_enter Tryd.func31, Tryd.ntmps31
    go_wp2
    go_ret
    exact ⟨by rw [HE.out]; rfl, 0, rfl⟩
theorem gaveI {f : FuncId} {xs : Array Value} {w : World} {r r' : Int × Int} (h : Calls Tryd.prog f xs w (GiveInt w r)) (e : r = r') : Calls Tryd.prog f xs w (GiveInt w r') := e ▸ h
theorem refmay04_is (v : Value) (m : List (List UInt8)) (w : World) (hm : MatAt w.heap v m) (x : Bool) (hx : mayB 255 m = x) : Calls Tryd.prog 31 #[v] w fun e w' => e = .returned (.bool x) ∧ Keeps w w' :=
  hx ▸ kept (refmay04_any v m w hm)
set_option maxRecDepth 100000 in
set_option maxHeartbeats 1000000 in
theorem refrank_any (va : Value) (m : List (List UInt8)) (w : World) (ha : MatAt w.heap va m) : Calls Tryd.prog 32 #[va] w (GiveInt w (rankM m)) := by
  have HA := Lib.hid ha
  clear ha
  cases hm : mayB 255 m with
  | false =>
    have e : Hid (rankM m = (0, 4)) := by show _ = _; unfold rankM; rw [hm]; rfl
    have MA := Lib.hid hm
    clear hm
    go_enter Tryd.func32, Tryd.ntmps32
    go_wp2_with fail
    refine Calls.mono (refmay04_is _ m _ HA.out _ MA.out) ?_
    rintro e w1 ⟨rfl, hk⟩
    go_wp2
    go_ret2
    exact ⟨by rw [e.out]; rfl, hk⟩
  | true =>
    have e : Hid (rankM m = (((LA.dn m (colsN m)).2 : Int), 0)) := by show _ = _; unfold rankM; rw [hm]; rfl
    obtain ⟨a1, a2, a3, a4, hR⟩ := may_cols hm
    have HR := Lib.hid hR
    clear hR
    have MA := Lib.hid hm
    clear hm
    go_enter Tryd.func32, Tryd.ntmps32
    go_wp2_with fail
    refine Calls.mono (refmay04_is _ m _ HA.out _ MA.out) ?_
    rintro e w1 ⟨rfl, hk⟩
    have HA := Lib.hid (HA.out.keeps hk)
    have HK := Lib.hid hk
    clear hk
    go_wp2_with fail
    refine Calls.mono (refdown_any _ m (colsN m) _ HA.out HR.out a1 a2 a3 (by omega)) ?_
    rintro e w2 ⟨g, cap, ρ, κ, rfl, hl, hk⟩
    have HK2 : Hid (Keeps w w2) := HK.out.call hk (Nat.le_refl _)
    clear hl hk
    go_wp2
    go_ret2
    exact ⟨by rw [e.out]; rfl, HK2.out⟩

end Go.Proofs.YtllfhaocdknejaaDoor
/- The walk of strongboxref04.Turn. -/
namespace Go.Proofs.YtllfhaocdknejaaDoor
open Go.RowKit
/-- Row k of the wide matrix, out of the zeros behind row k. -/
theorem wide_one {m : LA.Mat} (hr : LA.Rect m m.length) {k j : Nat} (hk : k < m.length) (hj : j < m.length + m.length) : (if j = m.length + k then (1 : UInt8) else LA.at_ m k j) = LA.at_ (wideM m) k j := by
  rw [← wideF_all hr hk hj]
  unfold wideF
  by_cases e : j = m.length + k
  · rw [if_pos e, if_pos ⟨hk, e⟩]
  · rw [if_neg e, if_neg (fun h => e h.2)]
/-- The tail of a row in a block of its own. -/
theorem RowF.tail {h : Array Obj} {r n o : Nat} {M : LA.Mat} {k κ : Nat} (l : RowF h r n (LA.at_ M k)) (hM : LA.Rect M n) (hk : k < M.length) (hn : n ≤ 4096) : RowAt h (.slice (some ⟨r, o, none⟩) (n - o) κ) ((M.getD k []).drop o) := by
  have hlen : (M.getD k []).length = n := LA.rect_row hM hk
  have hld : ((M.getD k []).drop o).length = n - o := by rw [List.length_drop, hlen]
  refine ⟨_, _, by rw [hld], by omega, fun j hj => ⟨r, o, _, rfl, (l.2 (o + j) (by omega)).2, ?_⟩⟩
  show Value.int .u8 (((M.getD k []).getD (o + j) 0).toNat : Int) = _
  generalize M.getD k [] = r at *
  rw [List.getD_eq_getElem?_getD, List.getElem?_eq_getElem (by omega)]
  simp [List.getElem_drop]

set_option maxRecDepth 100000 in
set_option maxHeartbeats 16000000 in
theorem refturn_any (va : Value) (m : List (List UInt8)) (w : World) (ha : MatAt w.heap va m) : Calls Tryd.prog 20 #[va] w (GiveMat w (turnM m)) := by
  obtain ⟨pa, qa, rfl⟩ := seq_shape ha
  have HA := Lib.hid ha
  clear ha
  cases hm : mayB 255 m with
  | false =>
    have e : Hid (turnM m = ([], 4)) := by show _ = _; unfold turnM; rw [hm]; rfl
    have MA := Lib.hid hm
    clear hm
    go_enter Tryd.func20, Tryd.ntmps20
    go_wp2_with fail
    refine Calls.mono (refmay04_is _ m _ HA.out _ MA.out) ?_
    rintro e w1 ⟨rfl, hk⟩
    go_wp2
    go_ret2
    rw [e.out]
    exact GiveMat.err hk
  | true =>
    obtain ⟨a1, a2, a3, a4, hR⟩ := may_cols hm
    obtain ⟨b1, o1, ea⟩ := mat_addr HA.out a1
    subst ea
    have MA := Lib.hid hm
    have i1 : (0 : Int) < (m.length : Int) := by omega
    by_cases hsq : m.length = colsN m
    · have hne : ((m.length : Int) != (colsN m : Int)) = false := by rw [bne_eq_false_iff_eq, hsq]
      have HSQ := Lib.hid hsq
      have HRS : Hid (LA.Rect m m.length) := by rw [← hsq] at hR; exact hR
      have HR := Lib.hid hR
      clear hR hm hsq
      go_enter Tryd.func20, Tryd.ntmps20
      go_wp2_with fail
      refine Calls.mono (refmay04_is _ m _ HA.out _ MA.out) ?_
      rintro e w1 ⟨rfl, hk⟩
      have HA := Lib.hid (HA.out.keeps hk)
      have HK := Lib.hid hk
      obtain ⟨p0, q0, d0⟩ := row0y HA.out a1
      change w1.cell? _ = some (.slice p0 (colsN m) q0) at d0
      clear hk
      have HRK : Hid (rankM m = (((LA.dn m (colsN m)).2 : Int), 0)) := by show _ = _; unfold rankM; rw [MA.out]; rfl
      go_wp2_with fail
      refine Calls.mono (gaveI (refrank_any _ m _ HA.out) HRK.out) ?_
      rintro e w2 ⟨rfl, hk⟩
      have HA := Lib.hid (HA.out.keeps hk)
      have HK := Lib.hid (HK.out.call hk (Nat.le_refl _))
      clear hk d0
      by_cases hrk : (LA.dn m (colsN m)).2 < m.length
      · have e : Hid (turnM m = ([], 5)) := by show _ = _; unfold turnM; rw [MA.out, decide_eq_true HSQ.out, if_pos hrk]; rfl
        have hq : decide ((((LA.dn m (colsN m)).2 : Nat) : Int) < (m.length : Int)) = true := decide_eq_true (by omega)
        have hq2 : decide ((LA.dn m (colsN m)).2 < m.length) = true := decide_eq_true hrk
        go_wp2_with fail
        go_ret2
        rw [e.out]
        exact GiveMat.err HK.out
      · have e : Hid (turnM m = (turnOf m, 0)) := by show _ = _; unfold turnM; rw [MA.out, decide_eq_true HSQ.out, if_neg hrk]; rfl
        have hq : decide ((((LA.dn m (colsN m)).2 : Nat) : Int) < (m.length : Int)) = false := decide_eq_false (by omega)
        have hq2 : decide ((LA.dn m (colsN m)).2 < m.length) = false := decide_eq_false hrk
        clear hrk
        obtain ⟨n, hn⟩ : ∃ n, n = m.length := ⟨_, rfl⟩
        obtain ⟨N2, hN2⟩ : ∃ N2, N2 = m.length + m.length := ⟨_, rfl⟩
        have HN2 := Lib.hid hN2
        have hn2 : N2 ≤ 510 := by omega
        clear hN2 hn
        go_wp2_with fail
        go_loopw [6, 7] (fun v i wr => ∃ k : Nat, k ≤ m.length ∧ i = .int .i64 k ∧ Hid (∃ ρ κ, Grows w2.heap.size wr v k N2 (LA.at_ (wideM m)) ρ κ) ∧ Hid (Keeps w2 wr)) (fun _ i _ => m.length - (intOf i).toNat)
        case atStart => exact ⟨0, by omega, rfl, ⟨_, _, Grows.nil _ _ _ _⟩, keeps_refl _⟩
        case round =>
          obtain ⟨k, hk, rfl, hR, hK⟩ := hrel
          by_cases hlt : k < m.length
          · have hlt64 : (k : Int) < (m.length : Int) := by omega
            have hge0 : (0 : Int) ≤ (k : Int) := by omega
            obtain ⟨b2, o2, c2, u2, e5, d1, r1⟩ := mat_row (HA.out.keeps hK.out) hlt
            injection e5 with e6 e7 e8
            simp only [Option.some.injEq, Addr.mk.injEq] at e6
            obtain ⟨rfl, rfl, _⟩ := e6
            subst e8
            clear e7
            have hrl : (m.getD k []).length = m.length := LA.rect_row HRS.out hlt
            obtain ⟨q0, o0, c0, e9, _⟩ := row_cell (j := 0) r1 (by omega)
            subst e9
            rw [hrl] at d1 r1
            have HL0 : Hid ((m.getD k []).length = m.length) := hrl
            have HW : Hid (∀ us j, us = bytesV (m.getD k []) ++ List.replicate m.length (.int .u8 0) → j < N2 → us[j]? = some (.int .u8 ((LA.at_ m k j).toNat : Int))) := fun us j hu hj => wide_row hrl hu j (by have := HN2.out; omega)
            have HWO : Hid (∀ j, j < N2 → (if j = m.length + k then (1 : UInt8) else LA.at_ m k j) = LA.at_ (wideM m) k j) := fun j hj => wide_one HRS.out hlt (by have := HN2.out; omega)
            have hsz := hK.out.size
            have hb1 := cell_lt d1
            have R5 : Hid (RowAt (wr.alloc (.cells #[] 5)).heap (.slice (some ⟨q0, o0, none⟩) m.length c0) (m.getD k [])) := SeqAt.keeps r1 ((Kept.refl _ _).alloc (Nat.le_refl _) _)
            clear r1 hrl
            generalize m.getD k [] = r at *
            go_wp2_with (at_builtin; refine wp_apps elRow rfl _ _ rfl wr.heap.size _ [] rfl (own_empty _ _ _ (Nat.le_refl _)) q0 o0 m.length c0 (bytesV r) rfl (by rw [bytesV_length]; exact HL0.out) (bytesV_at R5.out) (bytesV_one r) ?c1 ?c2 ?_)
            case c1 => have := HL0.out; simp only [List.length_nil, bytesV_length]; omega
            case c2 => simp
            intro v6 w6 hown6 hchg6
            have hT : Hid (Chg (fun x => wr.heap.size ≤ x) wr w6) := (((Chg.refl _ wr).alloc _).trans (hchg6.mono fun x _ h => by simp only [Value.ownBlock, Option.some.injEq] at h; omega))
            have hown7 : w6.ownsRow wr.heap.size 5 1 v6 (bytesV r).length (bytesV r) := by simpa using hown6
            have hbl : (bytesV r).length = m.length := by rw [bytesV_length]; exact HL0.out
            obtain ⟨v7, w7, hrun, ho7, hc7⟩ := run_appz (P := Tryd.prog) elRow rfl rfl Tryd.underlying3 39 wr.heap.size v6 (bytesV r) hown7 (by omega) m.length (by omega) hT.out.size
            rw [hbl] at hown7 ho7
            obtain ⟨g1, cap1, rfl, _, _⟩ := hown7.form (by omega)
            have ho7 : w7.ownsRow wr.heap.size 5 1 v7 N2 (bytesV r ++ List.replicate m.length (.int .u8 0)) := by rw [HN2.out]; exact ho7
            obtain ⟨g2, cap2, rfl, hg2, hl2⟩ := ho7.form (by have := HN2.out; omega)
            have HCAP2 : Hid (N2 ≤ cap2) := own_cap ho7
            have hF : Hid (RowF w7.heap g2 N2 (LA.at_ m k)) := rowF_own ho7 fun j hj => HW.out _ j rfl hj
            have hT7 : Hid (Chg (fun x => wr.heap.size ≤ x) wr w7) := hT.out.trans (hc7.mono fun x _ hx => (own_block hown7 x hx).1)
            clear hown6 hchg6 hown7 ho7 hc7 hbl hT
            have hin : m.length + k < N2 := by have := HN2.out; omega
            have j64 : (m.length : Int) + (k : Int) < (N2 : Int) := by omega
            have j0 : (0 : Int) ≤ (m.length : Int) + (k : Int) := by omega
            have hjn : ((m.length : Int) + (k : Int)).toNat = m.length + k := by omega
            obtain ⟨f2, d2⟩ := hF.out.2 (m.length + k) hin
            rw [← cell_of] at d2
            rw [← froz_of] at f2
            have hF2 : Hid (RowF (w7.setCell ⟨g2, m.length + k, none⟩ (.int .u8 1)).heap g2 N2 (LA.at_ (wideM m) k)) := by
              have h1 := hF.out.set (j := m.length + k) hin 1
              exact RowF.congr h1 fun j hj => HWO.out j hj
            have hT8 : Hid (Chg (fun x => wr.heap.size ≤ x) wr (w7.setCell ⟨g2, m.length + k, none⟩ (.int .u8 1))) := hT7.out.setCell (p := ⟨g2, m.length + k, none⟩) (fun _ => hg2) _
            obtain ⟨ρ, κ, us, hu1, hu2, hu3, hu4, hu5⟩ := hR.out
            have HO : Hid ((w7.setCell ⟨g2, m.length + k, none⟩ (.int .u8 1)).ownsRow w2.heap.size 39 1 u6 us.length us) := owns_chg hu1 hT8.out fun b hb e => by have := (own_block hu1 b hb).2.1; omega
            have HU1 := Lib.hid hu1
            have HU2 := Lib.hid hu2
            have HU3 := Lib.hid hu3
            have HU4 := Lib.hid hu4
            have HU5 := Lib.hid hu5
            have hs2 := hT8.out.size
            generalize LA.at_ m k (m.length + k) = x0 at d2
            clear hu1 hu2 hu3 hu4 hu5 hin
            go_wp2_with (first | (at_builtin; refine Lib.wpList_append_run _ rfl _ _ _ _ rfl _ _ rfl rfl _ _ hrun ?_) | (at_builtin; refine wp_app1 elRows rfl _ _ rfl w2.heap.size u6 us rfl (HO.out.alloc _) _ (.slice (some ⟨g2, 0, none⟩) N2 cap2) rfl ?d1 rfl ?d2 ?d3 ?_))
            case d1 => simp [go_sem]
            case d2 => have := HU2.out; omega
            case d3 => simp; omega
            intro v' w9 hown hchg
            have ca : Chg (fun x => wr.heap.size ≤ x) wr ((w7.setCell ⟨g2, m.length + k, none⟩ (.int .u8 1)).alloc (.cells #[.slice (some ⟨g2, 0, none⟩) N2 cap2] 39)) := hT8.out.alloc _
            have hpush : Hid (∃ ρ κ, Grows w2.heap.size w9 v' (k + 1) N2 (LA.at_ (wideM m)) ρ κ) := ⟨_, _, Grows.push (f := LA.at_ (wideM m) k) HU2.out HU3.out HU4.out HU5.out ca (fun b hb e => by omega) hg2 (Nat.le_trans hsz hg2) (hF2.out.chg (T := fun _ => False) ((Chg.refl _ _).alloc _) (fun x => x)) HCAP2.out hown hchg
              (fun b hb => by
                obtain ⟨_, h5, h6⟩ := own_block HO.out b hb
                exact typH_chg (T := fun _ => False) ((Chg.refl _ _).alloc _) h6 (fun x => x)) (fun _ _ => rfl)⟩
            have hk2 : Hid (Keeps w2 w9) := ((hK.out.chg.trans (ca.mono fun b hb e => by omega)).trans (hchg.mono fun b hb0 hb => (own_block HU1.out b hb).1)).keeps fun b hb hx => by omega
            clear hown hchg ca
            go_wp2
            exact ⟨⟨k + 1, by omega, by go_num, hpush, hk2⟩, by simp [intOf]; omega⟩
          · obtain rfl : k = m.length := by omega
            obtain ⟨wq, rfl⟩ : ∃ wq : World, wq = wr := ⟨_, rfl⟩
            obtain ⟨ρ0, κ0, hG⟩ := hR.out
            obtain ⟨g, cap, rfl, hl⟩ := hG.lies (by omega)
            have hlw : (wideM m).length = m.length := beside_length _ _
            have HRW : Hid (LA.Rect (wideM m) N2) := by rw [HN2.out]; exact wideM_rect HRS.out
            have HMW : Hid (MatAt wq.heap (.slice (some ⟨g, 0, none⟩) m.length cap) (wideM m)) := by
              have h1 : Lies w2.heap.size wq.heap g cap (wideM m).length N2 (LA.at_ (wideM m)) ρ0 κ0 := by rw [hlw]; exact hl
              have h2 := h1.mat HRW.out (fun _ _ _ _ => rfl) (by omega) (by omega)
              rw [hlw] at h2
              exact h2.at_
            have HD2 : Hid (Calls Tryd.prog 33 #[.slice (some ⟨g, 0, none⟩) m.length cap] wq (RefDowned wq (wideM m) N2)) := refdown_any _ (wideM m) N2 wq HMW.out HRW.out (by omega) (by omega) (by have := HN2.out; omega) (by omega)
            have HLN : Hid ((LA.dn (wideM m) N2).1.length = m.length) := by show _ = _; rw [dn_len, hlw]
            have HLW := Lib.hid hlw
            have HRN : Hid (LA.Rect (LA.dn (wideM m) N2).1 N2) := dn_rect HRW.out _
            have HTO : Hid (turnOf m = (LA.dn (wideM m) N2).1.map (List.drop m.length)) := by show _ = _; unfold turnOf; rw [HN2.out]
            have HKr := Lib.hid (HK.out.call hK.out (Nat.le_refl _))
            clear hlw hG hl hR hK HMW
            go_wp2_with fail
            refine Calls.mono HD2.out ?_
            rintro e w5 ⟨g5, cap5, ρ5, κ5, rfl, hl5, hk5⟩
            have HL5 := Lib.hid hl5
            have HK5 := Lib.hid (HKr.out.call hk5 (Nat.le_refl _))
            clear hl5 hk5
            rw [HLW.out] at HL5 ⊢
            go_wp2_with fail
            go_loopw [9, 10] (fun v i wx => ∃ k : Nat, k ≤ m.length ∧ i = .int .i64 k ∧ Hid (OwnRows w5.heap.size wx v ((turnOf m).take k)) ∧ Hid (Keeps w5 wx)) (fun _ i _ => m.length - (intOf i).toNat)
            case atStart => exact ⟨0, by omega, rfl, OwnSeq.nil _ _ _ _, keeps_refl _⟩
            case round =>
              obtain ⟨k, hk, rfl, hO, hKx⟩ := hrel
              by_cases hkl : k < m.length
              · have k64 : (k : Int) < (m.length : Int) := by omega
                have k0 : (0 : Int) ≤ (k : Int) := by omega
                have HLx : Hid (Lies wq.heap.size wr.heap g5 cap5 m.length N2 (LA.at_ (LA.dn (wideM m) N2).1) ρ5 κ5) := HL5.out.chg (T := fun _ => False) (Kept.any hKx.out) (fun _ _ _ x => x)
                obtain ⟨d1, _⟩ := HLx.out.cell hkl
                rw [← cell_of] at d1
                have hb1 := cell_lt d1
                have hno : m.length < N2 := by have := HN2.out; omega
                have hct := cut_tail (ρ5 k) N2 (κ5 k) m.length hno (HLx.out.room hkl)
                have hkM : k < (LA.dn (wideM m) N2).1.length := by have := HLN.out; omega
                have hrow : RowAt wr.heap (.slice (some ⟨ρ5 k, m.length, none⟩) (N2 - m.length) (κ5 k - m.length)) (((LA.dn (wideM m) N2).1.getD k []).drop m.length) := RowF.tail (HLx.out.row hkl) HRN.out hkM (by omega)
                have HSN : Hid ((turnOf m).take (k + 1) = (turnOf m).take k ++ [((LA.dn (wideM m) N2).1.getD k []).drop m.length]) := by
                  show _ = _
                  have h5 : k < (turnOf m).length := by rw [turnOf_length]; exact hkl
                  rw [← List.take_append_getElem h5]
                  have h6 := HTO.out
                  have h7 : (turnOf m)[k] = ((LA.dn (wideM m) N2).1.map (List.drop m.length))[k]'(by rw [List.length_map]; exact hkM) := List.getElem_of_eq h6 h5
                  rw [h7, List.getElem_map, List.getD_eq_getElem?_getD, List.getElem?_eq_getElem hkM]; rfl
                have RL : Hid ((((LA.dn (wideM m) N2).1.getD k []).drop m.length).length = N2 - m.length) := by
                  show _ = _
                  have h5 : ((LA.dn (wideM m) N2).1.getD k []).length = N2 := LA.rect_row HRN.out hkM
                  rw [List.length_drop, h5]
                obtain ⟨us, hu1, hu2, hu3⟩ := hO.out
                have hul : us.length = k := by rw [hu2, List.length_take, turnOf_length]; omega
                have HU := Lib.hid hu1
                have HL5 := Lib.hid hu2
                have HL6 := Lib.hid hul
                have H3 := Lib.hid hu3
                have hsz := hKx.out.size
                generalize ((LA.dn (wideM m) N2).1.getD k []).drop m.length = r at *
                have R5 : Hid (RowAt (wr.alloc (.cells #[] 5)).heap (.slice (some ⟨ρ5 k, m.length, none⟩) (N2 - m.length) (κ5 k - m.length)) r) := SeqAt.keeps hrow ((Kept.refl _ _).alloc (Nat.le_refl _) _)
                clear hu1 hu2 hul hu3 hrow hkM
                go_wp2_with (at_builtin; refine wp_apps_row elRow rfl _ _ rfl wr.heap.size _ [] rfl (own_empty _ _ _ (Nat.le_refl _)) (some ⟨ρ5 k, m.length, none⟩) (N2 - m.length) (κ5 k - m.length) r rfl R5.out ?e1 ?e2 ?_)
                case e1 => have := RL.out; simp; omega
                case e2 => simp
                intro v6 w6 hown6 hchg6
                have hc6 : Hid (Chg (fun x => x = wr.heap.size) wr w6) := ((Chg.refl _ wr).alloc _).trans (hchg6.mono fun x _ h => by simp only [Value.ownBlock, Option.some.injEq] at h; exact h.symm)
                have hr6 : Hid (RowIn (wr.heap.size ≤ ·) w6.heap v6 r) := (bytesV_seq (by rw [bytesV_length]; simpa using hown6)).seq (by have := RL.out; omega)
                have HO : Hid (w6.ownsRow w5.heap.size 39 1 u9 us.length us) := owns_chg HU.out hc6.out fun b hb e => by have := (own_block HU.out b hb).2.1; omega
                have HROW : Hid (RowIn (w5.heap.size ≤ ·) w6.heap v6 r) := SeqIn.mono hr6.out (fun b hb => Nat.le_trans hsz hb) fun _ _ x => x
                have hs6 := hc6.out.size
                obtain ⟨p6, q6, rfl⟩ := seq_shape hr6.out.at_
                clear hown6 hchg6
                go_wp2_with (at_builtin; refine wp_app1 elRows rfl _ _ rfl w5.heap.size u9 us rfl (HO.out.alloc _) _ (.slice p6 r.length q6) rfl ?f1 rfl ?f2 ?f3 ?_)
                case f1 => simp [go_sem]
                case f2 => have := HL6.out; omega
                case f3 => simp; omega
                intro v' w8 hown hchg
                have ca : Chg (fun x => x = wr.heap.size) wr (w6.alloc (.cells #[.slice p6 r.length q6] 39)) := hc6.out.alloc _
                have hpush := OwnRows.push (m := (turnOf m).take k) HL5.out H3.out ca (fun b hb _ _ e => by omega) hown hchg
                  (fun b hb => by
                    obtain ⟨_, h5, h6⟩ := own_block HO.out b hb
                    exact typH_chg (T := fun _ => False) ((Chg.refl _ w6).alloc _) h6 (fun x => x))
                  (SeqIn.chg HROW.out (T := fun _ => False) ((Chg.refl _ _).alloc _) (fun _ _ _ _ x => x) fun _ _ _ x => x)
                have hk2 : Hid (Keeps w5 w8) := ((hKx.out.chg.trans (ca.mono fun b hb e => by omega)).trans (hchg.mono fun b hb0 hb => by
                  exact (own_block HU.out b hb).1)).keeps fun b hb hx => by omega
                have HP := Lib.hid hpush
                clear hown hchg hpush
                go_wp2
                exact ⟨⟨k + 1, by omega, by go_num, by rw [HSN.out]; exact HP.out, hk2⟩, by simp [intOf]; omega⟩
              · obtain rfl : k = m.length := by omega
                have HRo : Hid (OwnRows w5.heap.size wr u9 (turnOf m)) := by have := hO.out; rw [← turnOf_length, List.take_length] at this; exact this
                have HKE : Hid (Keeps w wr) := HK5.out.call hKx.out (Nat.le_refl _)
                have hsz5 := HK5.out.size
                go_wp2_with fail
                go_ret2
                rw [e.out]
                exact ⟨_, rfl, (HRo.out.mat (by rw [turnOf_length]; omega)).mono fun b hb => Nat.le_trans hsz5 hb, HKE.out⟩
    · have e : Hid (turnM m = ([], 4)) := by show _ = _; unfold turnM; rw [MA.out, decide_eq_false hsq]; rfl
      have hne : ((m.length : Int) != (colsN m : Int)) = true := by rw [bne_iff_ne]; omega
      clear hR hm hsq
      go_enter Tryd.func20, Tryd.ntmps20
      go_wp2_with fail
      refine Calls.mono (refmay04_is _ m _ HA.out _ MA.out) ?_
      rintro e w1 ⟨rfl, hk⟩
      have HA := Lib.hid (HA.out.keeps hk)
      obtain ⟨p0, q0, d0⟩ := row0y HA.out a1
      change w1.cell? _ = some (.slice p0 (colsN m) q0) at d0
      go_wp2
      go_ret2
      rw [e.out]
      exact GiveMat.err hk
end Go.Proofs.YtllfhaocdknejaaDoor
