/- append of a whole row, whatever its length; the law's own copy of a matrix. -/
import Derived.Test.YtojdodbedemkoaaTms
import Derived.Test.YtojdodbedemkoaaRefRows

namespace Go.Proofs.Ytojdodbedemkoaa
open Go.RowKit
section
variable {P : Program} {w : World}
theorem run_app0 (base : Nat) (t ty e : TypeId) (i : TypeInfo) (ht : P.underlying t = some (.slice e)) (hi : P.info? e = some i)
    (v : Value) (n : Nat) (xs : List Value) (hown : w.ownsRow base e 1 v n xs) (c : Nat) :
    (Builtin.append_ #[t, t] ty #[v, .slice none 0 c]).run P w = .ok v w := by
  rcases hown.2 with ⟨rfl, rfl⟩ | ⟨g, cap, cur, rfl, _, _, hnc, _⟩
  · simp [Builtin.append_, run_underlying ht, sizeOf, typeInfo, hi, Builtin.lenOf, Builtin.firstCells]
  · simp [Builtin.append_, run_underlying ht, sizeOf, typeInfo, hi, Builtin.lenOf, Builtin.firstCells, hnc, storeCells]
end
section
variable {P : Program} {t e : TypeId} {z : Value} {bytes : Nat} (E : ElemTy P t e z bytes) {w : World} {ops : Array Oper} {rest : List Oper} {o : Oper} {a : Act} {Q : Exit → Act → World → Prop}
include E
theorem wp_apps_row (hgd : o.guard = none) (s x : Operand) (ho : o.op = .call { callee := .builtin .append, args := #[s, x], argTypes := #[t, t] })
    (base : Nat) (v : Value) (xs : List Value) (hs : a.eval s = v) (hown : w.ownsRow base e 1 v xs.length xs) (p : Option Addr) (n c : Nat) (r : List UInt8) (hx : a.eval x = .slice p n c) (hr : RowAt w.heap (.slice p n c) r)
    (hlen : (xs.length + r.length) * bytes ≤ 140737488355328) (hbase : base ≤ w.heap.size)
    (h : ∀ v' w', w'.ownsRow base e 1 v' (xs.length + r.length) (xs ++ bytesV r) → Chg (fun k => v.ownBlock = some k) w w' → wpList P ops Q rest (a.put o.dst v') w') : wpList P ops Q (o :: rest) a w := by
  have hr0 := hr
  obtain ⟨p', c', e1, hl, hel⟩ := hr0
  injection e1 with e1 e2 e3
  subst e1 e2 e3
  cases r with
  | nil =>
    cases p with
    | some ad =>
      obtain ⟨i, h2, h3, h4, h5⟩ := info_parts E.hi
      refine wpList_append_own _ hgd s x t ho base e i z 1 bytes E.ht h2 h3 h4 h5 E.hz (by decide) v xs.length xs hs hown ad 0 c [] hx rfl (fun j u hj => by simp at hj) (fun u hu => by simp at hu) ?_ (by simpa using hlen) hbase ?_
      · have hb := E.hb
        have : xs.length * 1 ≤ xs.length * bytes := Nat.mul_le_mul_left _ hb
        simp only [List.length_nil] at hlen
        unfold maxLen; simp at hlen ⊢; omega
      · intro v' w' h6 h7 _
        exact h v' w' (by simpa [bytesV] using h6) ((Chg.refl _ w).grown h7 fun k hk _ => hk)
    | none =>
      obtain ⟨i, h2, h3, h4, h5⟩ := info_parts E.hi
      refine wpList_plain hgd fun K hK => ?_
      have hrun := run_app0 (P := P) (w := w) base t o.type e i E.ht h2 v xs.length xs hown c
      unfold Oper.wp
      simp only [List.length_nil] at hx
      simp [execOp, ho, resolve, invoke, builtin, hs, hx, hrun, Result.andThen]
      exact hK _ _ (h v w (by simpa [bytesV] using hown) (Chg.refl _ w))
  | cons y r =>
    obtain ⟨b, off, u, rfl, _, _⟩ := hel 0 (by simp)
    refine wp_apps E hgd s x ho base v xs hs hown b off _ c (bytesV (y :: r)) hx (bytesV_length _) (bytesV_at hr) (bytesV_one _) (by rw [bytesV_length]; exact hlen) hbase ?_
    intro v' w' h6 h7
    rw [bytesV_length] at h6
    exact h v' w' h6 h7
end
set_option maxRecDepth 100000 in
set_option maxHeartbeats 4000000 in
theorem lawown_any (va : Value) (m : List (List UInt8)) (w : World) (ha : MatAt w.heap va m) (h1 : m.length ≤ 4096) (h2 : ∀ r ∈ m, r.length ≤ 4096) :
    Calls Try.prog 46 #[va] w fun e w' => ∃ v, e = .returned v ∧ MatIn (w.heap.size ≤ ·) w'.heap v m ∧ Keeps w w' := by
  obtain ⟨pa, qa, rfl⟩ := seq_shape ha
  have HA := Lib.hid ha
  have HR2 := Lib.hid h2
  clear ha h2
  go_enter Try.func46, Try.ntmps46
  go_wp2
  go_loopw [3, 4] (fun v i wr => ∃ k : Nat, k ≤ m.length ∧ i = .int .i64 k ∧ Hid (OwnRows w.heap.size wr v (m.take k)) ∧ Hid (Keeps w wr)) (fun _ i _ => m.length - (intOf i).toNat)
  case atStart => exact ⟨0, by omega, rfl, OwnSeq.nil _ _ _ _, keeps_refl w⟩
  case round =>
    obtain ⟨k, hk, rfl, hR, hK⟩ := hrel
    by_cases hlt : k < m.length
    · have hlt64 : (k : Int) < (m.length : Int) := by omega
      obtain ⟨b1, o1, c1, u1, e5, d1, r1⟩ := mat_row (HA.out.keeps hK.out) hlt
      injection e5 with e6 e7 e8
      subst e6 e8
      obtain ⟨p1, q1, rfl⟩ := seq_shape r1
      have hmem : m.getD k [] ∈ m := by rw [List.getD_eq_getElem?_getD, List.getElem?_eq_getElem hlt]; exact List.getElem_mem hlt
      have hrl := HR2.out _ hmem
      have HSN : Hid (m.take (k + 1) = m.take k ++ [m.getD k []]) := by
        show _ = _
        rw [List.getD_eq_getElem?_getD, List.getElem?_eq_getElem hlt]; exact (List.take_append_getElem hlt).symm
      obtain ⟨us, hu1, hu2, hu3⟩ := hR.out
      have hul : us.length = k := by rw [hu2, List.length_take]; omega
      have HU := Lib.hid hu1
      have HL5 := Lib.hid hu2
      have HL6 := Lib.hid hul
      have H3 := Lib.hid hu3
      have RL := Lib.hid hrl
      have hsz := hK.out.size
      generalize m.getD k [] = r at *
      have R5 : Hid (RowAt (wr.alloc (.cells #[] 5)).heap (.slice p1 r.length q1) r) := SeqAt.keeps r1 ((Kept.refl _ _).alloc (Nat.le_refl _) _)
      have hb1 := cell_lt d1
      clear hu1 hu2 hul hu3 r1 hrl hmem e7
      go_wp2_with (at_builtin; refine wp_apps_row elRow rfl _ _ rfl wr.heap.size _ [] rfl (own_empty _ _ _ (Nat.le_refl _)) p1 _ q1 r rfl R5.out ?c1 ?c2 ?_)
      case c1 => have := RL.out; simp; omega
      case c2 => simp
      intro v6 w6 hown6 hchg6
      have hc6 : Hid (Chg (fun x => x = wr.heap.size) wr w6) := ((Chg.refl _ wr).alloc _).trans (hchg6.mono fun x _ h => by simp only [Value.ownBlock, Option.some.injEq] at h; exact h.symm)
      have hr6 : Hid (RowIn (wr.heap.size ≤ ·) w6.heap v6 r) := (bytesV_seq (by rw [bytesV_length]; simpa using hown6)).seq (by have := RL.out; omega)
      have HO : Hid (w6.ownsRow w.heap.size 33 1 u3 us.length us) := owns_chg HU.out hc6.out fun b hb e => by have := (own_block HU.out b hb).2.1; omega
      have HROW : Hid (RowIn (w.heap.size ≤ ·) w6.heap v6 r) := SeqIn.mono hr6.out (fun b hb => Nat.le_trans hsz hb) fun _ _ x => x
      have hs6 := hc6.out.size
      obtain ⟨p6, q6, rfl⟩ := seq_shape hr6.out.at_
      clear hown6 hchg6
      go_wp2_with (at_builtin; refine wp_app1 elRows rfl _ _ rfl w.heap.size u3 us rfl (HO.out.alloc _) _ (.slice p6 r.length q6) rfl ?d1 rfl ?d2 ?d3 ?_)
      case d1 => simp [go_sem]
      case d2 => have := HL6.out; omega
      case d3 => simp; omega
      intro v' w2 hown hchg
      have ca : Chg (fun x => x = wr.heap.size) wr (w6.alloc (.cells #[.slice p6 r.length q6] 33)) := hc6.out.alloc _
      have hpush := OwnRows.push (m := m.take k) HL5.out H3.out ca (fun b hb _ _ e => by omega) hown hchg
        (fun b hb => by
          obtain ⟨_, h5, h6⟩ := own_block HO.out b hb
          exact typH_chg (T := fun _ => False) ((Chg.refl _ w6).alloc _) h6 (fun x => x))
        (SeqIn.chg HROW.out (T := fun _ => False) ((Chg.refl _ _).alloc _) (fun _ _ _ _ x => x) fun _ _ _ x => x)
      have hk2 : Hid (Keeps w w2) := ((hK.out.chg.trans (ca.mono fun b hb e => by omega)).trans (hchg.mono fun b hb0 hb => by
        exact (own_block HU.out b hb).1)).keeps fun b hb hx => by omega
      have HP := Lib.hid hpush
      clear hown hchg hpush
      go_wp2
      exact ⟨⟨k + 1, by omega, by go_num, by rw [HSN.out]; exact HP.out, hk2⟩, by simp [intOf]; omega⟩
    · obtain rfl : k = m.length := by omega
      have HR : Hid (OwnRows w.heap.size wr u3 m) := by have := hR.out; rw [List.take_length] at this; exact this
      go_wp2
      go_ret
      exact ⟨_, rfl, HR.out.mat h1, hK.out⟩
end Go.Proofs.Ytojdodbedemkoaa
