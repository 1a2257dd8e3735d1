/- The walk of the law PackerTells. -/
import Derived.Test.YteandjophamipaaPAwake
import Derived.Test.YteandjophamipaaRGath
import Derived.Test.YteandjophamipaaPBack
namespace Go.Proofs.Yteandjophamipaa
open Go.RowKit
attribute [local go_sem ↓] Go.wp_at_zero Go.wp_at_succ
/-- What is gathered, or nothing; how it is refused. -/
def gthL (l : List ByteArray) : List (List ByteArray) := if badG l then [] else gath l
def gthE (l : List ByteArray) : Int := if badG l then 4 else 0
theorem PacksIn.nil (N H : Nat) (E : TypeId) (h : Array Obj) : PacksIn N H E h (.slice none 0 0) [] := ⟨[], rfl, ⟨fun _ h => absurd h (by simp), List.Pairwise.nil⟩, RecIn.nil _ _ _ _ _⟩
theorem PacksIn.keeps {N H : Nat} {E : TypeId} {w w' : World} {v : Value} {gs : List (List ByteArray)} (h : PacksIn N H E w.heap v gs) (c : Keeps w w') : PacksIn N H E w'.heap v gs := by
  obtain ⟨ls, e, hc, hr⟩ := h
  exact ⟨ls, e, hc, hr.chg (T := fun _ => False) (Kept.any c) (fun _ _ _ _ x => x) fun _ y _ x => IsPack.keeps (S := fun b => y.2.1 ≤ b ∧ b < y.2.2) x c⟩
theorem give_pk {E : TypeId} {f : FuncId} {xs : Array Value} {w : World} {l : List ByteArray} (h : Calls Try.prog f xs w (GivePk E w l)) :
    Calls Try.prog f xs w fun e w' => ∃ v, e = .returned (.tuple #[v, .int .i64 (gthE l)]) ∧ PacksIn w.heap.size w'.heap.size E w'.heap v (gthL l) ∧ Keeps w w' :=
  h.mono fun e w' ⟨v, h1, h2⟩ => by
    unfold gthE gthL
    cases hb : badG l with
    | true => rw [hb] at h1; obtain ⟨rfl, h4⟩ := h1; exact ⟨_, h4, PacksIn.nil _ _ _ _, h2⟩
    | false => rw [hb] at h1; exact ⟨v, h1.1, h1.2, h2⟩
theorem give_rk {E : TypeId} {f : FuncId} {xs : Array Value} {w : World} {l : List ByteArray} (h : Calls Try.prog f xs w (GivePacks E w l)) :
    Calls Try.prog f xs w fun e w' => ∃ v, e = .returned (.tuple #[v, .int .i64 (gthE l)]) ∧ RecIn (w.heap.size ≤ ·) E 4 (IsPack (w.heap.size ≤ ·) w'.heap) w'.heap v (gthL l) ∧ Keeps w w' :=
  h.mono fun e w' ⟨v, h1, h2⟩ => by
    unfold gthE gthL
    cases hb : badG l with
    | true => rw [hb] at h1; obtain ⟨rfl, h4⟩ := h1; exact ⟨_, h4, RecIn.nil _ _ _ _ _, h2⟩
    | false => rw [hb] at h1; exact ⟨v, h1.1, h1.2, h2⟩
theorem gthL_len (l : List ByteArray) : (gthL l).length ≤ l.length := by
  unfold gthL
  cases hb : badG l with
  | true => simp
  | false => have := gath_len l hb; simp only [Bool.false_eq_true, if_false]; omega
theorem gthL_bytes (l : List ByteArray) : bytesG (gthL l) ≤ 8 * l.length + total l := by
  unfold gthL
  cases hb : badG l with
  | true => simp [bytesG]
  | false => exact bytesG_le l hb
theorem gthL_good (l : List ByteArray) : ∀ g ∈ gthL l, 0 < g.length ∧ g.length ≤ 1000000 := by
  unfold gthL
  cases hb : badG l with
  | true => simp
  | false =>
    intro g hg
    have := gath_good hb g hg
    have h2 := mayP_len this
    exact ⟨List.length_pos_iff.2 (mayP_ne this), by omega⟩
theorem recs_keeps {N : Nat} {E : TypeId} {w w' : World} {v : Value} {gs : List (List ByteArray)} {T : Nat → Prop} (h : RecIn (N ≤ ·) E 4 (IsPack (N ≤ ·) w.heap) w.heap v gs) (c : Chg T w w') (ht : ∀ b, N ≤ b → ¬ T b) : RecIn (N ≤ ·) E 4 (IsPack (N ≤ ·) w'.heap) w'.heap v gs :=
  h.chg c (fun b _ hb _ => ht b hb) fun _ _ _ x => IsPack.chg x c fun b _ hb _ => ht b hb
theorem run_nil0 {P : Program} (w : World) (t ty e : TypeId) (i : TypeInfo) (ht : P.underlying t = some (.slice e)) (hi : P.info? e = some i) (g c : Nat) (p : Option Addr) :
    (Builtin.append_ #[t, t] ty #[.slice (some ⟨g, 0, none⟩) 0 0, .slice p 0 c]).run P w = .ok (.slice (some ⟨g, 0, none⟩) 0 0) w := by
  cases p <;> simp [Builtin.append_, run_underlying ht, sizeOf, typeInfo, hi, Builtin.lenOf, Builtin.firstCells, storeCells, loadCells, loadCellsFrom]
/-- 'append([]string{}, l...)'. -/
theorem wp_texts {ops : Array Oper} {rest : List Oper} {o : Oper} {a : Act} {w : World} {Q : Exit → Act → World → Prop} (hgd : o.guard = none) (s x : Operand) (ho : o.op = .call { callee := .builtin .append, args := #[s, x], argTypes := #[22, 22] })
    (g : Nat) (hs : a.eval s = .slice (some ⟨g, 0, none⟩) 0 0) (p : Option Addr) (c : Nat) (l : List ByteArray) (hx : a.eval x = .slice p l.length c) (hl : TextsAt w.heap (.slice p l.length c) l) (hlen : l.length ≤ 1000000)
    (h : ∀ v' w', TextsAt w'.heap v' l → Keeps w w' → wpList Try.prog ops Q rest (a.put o.dst v') w') : wpList Try.prog ops Q (o :: rest) a w := by
  rcases Nat.eq_zero_or_pos l.length with h0 | h0
  · have hn : l = [] := List.length_eq_zero_iff.1 h0
    subst hn
    obtain ⟨i, h2, h3, h4, h5⟩ := info_parts elTextK.hi
    refine wpList_plain hgd fun K hK => ?_
    have hrun := run_nil0 w 22 o.type 9 i elTextK.ht h2 g c p
    unfold Oper.wp
    simp only [List.length_nil] at hx
    simp [execOp, ho, resolve, invoke, builtin, hs, hx, hrun, Result.andThen]
    exact hK _ _ (h _ w ⟨_, _, rfl, by simp, fun i hi => absurd hi (by simp)⟩ (keeps_refl w))
  · obtain ⟨b, off, c', u, e, _, _⟩ := seq_cell hl h0
    injection e with e1 _ e2
    subst e1 e2
    refine wp_fresh elTextK hgd s x ho g hs b off l.length c (textsV l) hx (by rw [textsV_len, Nat.mul_one]) h0 (textsV_cells hl) (by omega) fun v' w' h1 h2 => h v' w' ?_ h2
    exact SeqIn.at_ (textsV_seq (Nat.le_refl _) h1 (by omega) rfl)
set_option maxRecDepth 100000 in
set_option maxHeartbeats 4000000 in
theorem ptells_any (v : Value) (l : List ByteArray) (w : World) (h : TextsAt w.heap v l) : Calls Try.prog 9 #[v] w fun e w' => e = .returned (.bool true) ∧ Keeps w w' := by
  obtain ⟨p, q, rfl⟩ := seq_shape h
  have H := Lib.hid h
  clear h
  cases hlb : longB l with
  | true =>
    have HL := Lib.hid hlb
    clear hlb
    go_enter Try.func9, Try.ntmps9
    go_wp2_with fail
    refine Calls.mono (plong16_any _ l _ H.out) ?_
    rintro e w' ⟨rfl, rfl⟩
    rw [HL.out]
    go_wp2_with fail
    refine Calls.mono (pawake_any _) ?_
    rintro e w1 ⟨rfl, hk⟩
    go_wp2_with fail
    go_ret
    exact ⟨rfl, hk⟩
  | false =>
  have HL := Lib.hid hlb
  obtain ⟨hs, htl⟩ := longB_no hlb
  have hlen : l.length ≤ 4000 := by omega
  have htot : total l ≤ 80000 := by omega
  have HGL := Lib.hid (gthL_len l)
  have HBY : Hid (bytesG (gthL l) ≤ 200000) := by have := gthL_bytes l; show _ ≤ _; omega
  have HGG := Lib.hid (gthL_good l)
  have hgsl : (gthL l).length ≤ 4000 := by have := HGL.out; omega
  clear hlb hs htl
  go_enter Try.func9, Try.ntmps9
  go_wp2_with fail
  refine Calls.mono (plong16_any _ l _ H.out) ?_
  rintro e w' ⟨rfl, rfl⟩
  rw [HL.out]
  have HW1 : Hid (TextsAt (w.alloc (.cells #[] 9)).heap (.slice p l.length q) l) := SeqAt.al H.out _
  go_wp2_with (at_builtin; refine wp_texts rfl (.tmp 15) (.tmp 16) rfl w.heap.size rfl p q l rfl HW1.out (by omega) ?_; intro v1 w1 h1 hk1; have HI := Lib.hid h1; have HK1 : Hid (Keeps w w1) := (kal w _).trans hk1; clear h1 hk1)
  obtain ⟨pi, qi, rfl⟩ := seq_shape HI.out
  go_wp2_with fail
  go_loopw [4] (fun i wr => ∃ k : Nat, k ≤ 2 ∧ i = .int .i64 k ∧ Hid (Keeps w1 wr)) (fun i _ => 2 - (intOf i).toNat)
  case atStart => exact ⟨0, by omega, rfl, keeps_refl w1⟩
  case round =>
    obtain ⟨k, hk, rfl, hK⟩ := hrel
    by_cases hlt : k < 2
    · as_aux_lemma =>
      have hlt64 : (k : Int) < 2 := by omega
      have hk0 : (0 : Int) ≤ (k : Int) := by omega
      go_wp2_with fail
      refine Calls.mono (give_pk (gatherP_any _ l _ (SeqAt.keeps HI.out hK.out) (by omega) (by omega))) ?_
      rintro e w2 ⟨va, rfl, hpk, hk2⟩
      have HP2 := Lib.hid hpk
      have HK2 := Lib.hid hk2
      have H2 : Hid (TextsAt w2.heap (.slice p l.length q) l) := SeqAt.keeps H.out ((HK1.out.trans hK.out).trans hk2)
      clear hpk hk2
      go_wp2_with fail
      refine Calls.mono (give_rk (rgather_any _ l _ H2.out (by omega) (by omega))) ?_
      rintro e w3 ⟨vb, rfl, hrk, hk3⟩
      have HB3 := Lib.hid hrk
      have HK3 := Lib.hid hk3
      obtain ⟨pb, qb, rfl⟩ := rec_shape hrk.at_
      clear hrk hk3
      generalize gthL l = gs at *
      generalize gthE l = er at *
      go_wp2_with fail
      go_loop [9, 10] (fun n i => ∃ t : Nat, t ≤ gs.length ∧ i = .int .i64 t ∧ n = .int .i64 (bytesG (gs.take t) : Int)) (fun _ i => gs.length - (intOf i).toNat)
      case atStart => exact ⟨0, by omega, rfl, rfl⟩
      case round =>
        obtain ⟨t, ht, rfl, rfl⟩ := hrel
        by_cases htl : t < gs.length
        · have ht64 : (t : Int) < (gs.length : Int) := by omega
          have ht0 : (0 : Int) ≤ (t : Int) := by omega
          obtain ⟨b, o, q3, us, e5, hus, hc, c, pp, rfl, _, _⟩ := rec_cell HB3.out.at_ htl
          injection e5 with e6 e7 e8
          subst e6 e8
          have K0 := hc 0 (by simp)
          simp only [List.getElem_cons_zero, Nat.add_zero] at K0
          rw [← grp_get htl] at K0
          have hst := bytesG_take htl
          have hmo := bytesG_mono (gs := gs) (t + 1)
          have hbd := HBY.out
          have hbs : (strB (blobP (grp gs t))).size = (blobP (grp gs t)).length := strB_size _
          clear hus hc e7
          generalize strB (blobP (grp gs t)) = B at *
          have HX : Hid (bytesG (gs.take (t + 1)) = bytesG (gs.take t) + B.size) := by show _ = _; omega
          have hle : bytesG (gs.take t) + B.size ≤ 200000 := by omega
          clear hst hmo hbd hbs
          generalize bytesG (gs.take t) = y at *
          go_wp2
          exact ⟨⟨t + 1, by omega, by go_num, by rw [HX.out]; go_num⟩, by simp [intOf]; omega⟩
        · obtain rfl : t = gs.length := by omega
          have HTL : Hid (gs.take gs.length = gs) := List.take_length
          rw [HTL.out]
          have HPT : Hid (RecAt 4 PackT w3.heap va gs) := RecAt.keeps (HP2.out.recs.at_.imp (fun _ _ _ e => e) fun _ _ _ x => x.t) HK3.out
          have hnh : wr.heap.size ≤ w2.heap.size := HK2.out.size
          have hh3 : w2.heap.size ≤ w3.heap.size := HK3.out.size
          have hw1 : w1.heap.size ≤ wr.heap.size := hK.out.size
          go_wp2_with fail
          refine Calls.mono (pbytes_any _ gs _ HPT.out (by have := HBY.out; omega)) ?_
          rintro e w4 ⟨rfl, hk4⟩
          have HK4 := Lib.hid hk4
          have HP4 := Lib.hid ((HP2.out.keeps HK3.out).keeps hk4)
          have hh4 : w3.heap.size ≤ w4.heap.size := hk4.size
          have HB4 := Lib.hid (recs_keeps (T := fun _ => False) HB3.out (Kept.any hk4) fun _ _ x => x)
          clear hk4
          go_wp2_with fail
          refine Calls.mono (pback_any _ gs _ wr.heap.size w2.heap.size HP4.out hnh (by omega) (by omega) HGG.out) ?_
          rintro e w5 ⟨vs, rfl, hs5, hc5⟩
          have HS5 := Lib.hid hs5
          have HB5 : Hid (PacksA w5.heap (.slice pb gs.length qb) gs) := (RecIn.at_ (recs_keeps HB4.out hc5 fun b hb x => by have := x.2.1; omega)).imp (fun _ _ _ e => e) fun _ _ _ x => x.atA
          have HKE : Hid (Keeps w1 w5) := by
            have h4 : Keeps wr w4 := (HK2.out.trans HK3.out).trans HK4.out
            exact (hK.out.trans h4).then (chg_kept (B := w1.heap.size) hc5 (fun q _ x => by have := x.1; omega) (Nat.le_trans hw1 h4.size)) (Nat.le_refl _)
          clear hs5 hc5
          go_wp2_with fail
          refine Calls.mono (rsame_any _ _ gs _ HS5.out HB5.out) ?_
          rintro e w6 ⟨rfl, n6, rfl⟩
          go_wp2_with fail
          exact ⟨⟨k + 1, by omega, by go_num, HKE⟩, by simp [intOf]; omega⟩
    · as_aux_lemma =>
      obtain rfl : k = 2 := by omega
      go_wp2_with fail
      go_loopw [11] (fun i wz => ∃ t : Nat, t ≤ l.length ∧ i = .int .i64 t ∧ ∃ n, wz = wr.drewN n) (fun i _ => l.length - (intOf i).toNat)
      case atStart => exact ⟨0, by omega, rfl, 0, rfl⟩
      case round =>
        obtain ⟨t, ht, rfl, n, rfl⟩ := hrel
        by_cases htl : t < l.length
        · have ht64 : (t : Int) < (l.length : Int) := by omega
          have ht0 : (0 : Int) ≤ (t : Int) := by omega
          obtain ⟨b1, o1, u1, rfl, d1, r1⟩ := seq_cellP (SeqAt.keeps HI.out hK.out) htl
          obtain ⟨b2, o2, u2, rfl, d2, r2⟩ := seq_cellP (SeqAt.keeps H.out (HK1.out.trans hK.out)) htl
          unfold IsText at r1 r2
          subst r1 r2
          have m1 : ∀ n, (wr.drewN n).cell? ⟨b1, o1 + t, none⟩ = some (.string l[t]) := fun n => d1
          have m2 : ∀ n, (wr.drewN n).cell? ⟨b2, o2 + t, none⟩ = some (.string l[t]) := fun n => d2
          clear d1 d2
          generalize l[t] = s at *
          go_wp2_with fail
          go_quiet (fail)
          go_wp2
          exact ⟨⟨t + 1, by omega, by go_num, _, (by first | rfl | exact drew_two _ _ _)⟩, by simp [intOf]; omega⟩
        · obtain rfl : t = l.length := by omega
          go_wp2_with fail
          refine Calls.mono (pawake_any _) ?_
          rintro e w9 ⟨rfl, hk9⟩
          have HK9 : Hid (Keeps w w9) := (HK1.out.trans hK.out).trans hk9
          clear hk9
          go_wp2_with fail
          go_ret
          exact ⟨rfl, HK9.out⟩
end Go.Proofs.Yteandjophamipaa
