/- The walk of the law PackerFirst. -/
import Derived.Test.YteandjophamipaaLawPBytes
namespace Go.Proofs.Yteandjophamipaa
open Go.RowKit
attribute [local go_sem ↓] Go.wp_at_zero Go.wp_at_succ
def pfirst13 (b o n q b2 o2 n2 q2 k : Nat) (B D : ByteArray) : Nat → Value → Prop
  | i, v => v = ([.slice (some ⟨b, o, none⟩) n q, .int .i64 (k : Int), .pointer (some ⟨b, o + k * 4, none⟩), .pointer (some ⟨b, o + k * 4, none⟩), .string B, .slice (some ⟨b2, o2, none⟩) n2 q2, .int .i64 (k : Int), .pointer (some ⟨b2, o2 + k * 4, none⟩), .pointer (some ⟨b2, o2 + k * 4, none⟩), .string B, .bool false, .bool false, .slice (some ⟨b, o, none⟩) n q, .int .i64 (k : Int), .pointer (some ⟨b, o + k * 4, none⟩), .pointer (some ⟨b, o + k * 4 + 1, none⟩), .string D, .slice (some ⟨b2, o2, none⟩) n2 q2, .int .i64 (k : Int), .pointer (some ⟨b2, o2 + k * 4, none⟩), .pointer (some ⟨b2, o2 + k * 4 + 1, none⟩), .string D, .bool false, .bool false] : List Value).getD i undef
def pfirst30 (b o n q b2 o2 n2 q2 k t : Nat) (D s : ByteArray) : Nat → Value → Prop
  | i, v => v = ([.int .i64 (t : Int), .slice (some ⟨b, o, none⟩) n q, .int .i64 (n : Int), .bool false, .bool false, .slice (some ⟨b, o, none⟩) n q, .int .i64 (t : Int), .pointer (some ⟨b, o + t, none⟩), .string D, .slice (some ⟨b2, o2, none⟩) n2 q2, .int .i64 (k : Int), .pointer (some ⟨b2, o2 + k, none⟩), .string s, .string D, .bool false, .bool false] : List Value).getD i undef
theorem ht_texts : Try.prog.underlying 22 = some (.slice (Try.prog.elem 22)) := by kernel_rfl
theorem sz_text (w : World) : (sizeOf (Try.prog.elem 22)).run Try.prog w = .ok 1 w := by kernel_rfl
theorem run_frontT (ao : Option Addr) (n q m : Nat) (h : m ≤ q) (w : World) : (Instr.slice 22 (.slice ao n q) none (some (.int .i64 (m : Int))) none).run Try.prog w = .ok (.slice ao m q) w := by
  rw [run_slice_h (P := Try.prog) w 22 ao n q ht_texts .i64 (m : Int) (by omega) (by omega), sz_text]
  have e : (m : Int).toNat = m := by omega
  rw [e]
  show Result.ok (sliced ao 0 m q 1) w = _
  unfold sliced
  cases ao with
  | none => simp
  | some a => simp [Addr.add]
theorem seq_front {α : Type} {R : Value → α → Prop} {h : Array Obj} {ao : Option Addr} {n c : Nat} {l : List α} (s : SeqAt R h (.slice ao n c) l) {m : Nat} (hm : m ≤ l.length) (c' : Nat) : SeqAt R h (.slice ao m c') (l.take m) := by
  obtain ⟨a, ca, e, hl, hel⟩ := s
  injection e with e1 e2 e3
  have hlen : (l.take m).length = m := by rw [List.length_take]; omega
  refine ⟨ao, c', by rw [hlen], by omega, fun i hi => ?_⟩
  obtain ⟨b, off, u, x1, x2, x3⟩ := hel i (by omega)
  rw [← e1] at x1
  exact ⟨b, off, u, x1, x2, by rw [List.getElem_take]; exact x3⟩
theorem rem_k (n : Int) (m : Nat) (hm : m ≤ 60000) : ∃ κ : Nat, κ ≤ m ∧ wrap64 ((IntKind.u64.wrap n).tmod ((m : Int) + 1)) = (κ : Int) := by
  have h0 : 0 ≤ IntKind.u64.wrap n := by unfold IntKind.wrap; simp [IntKind.signed, IntKind.bits]; omega
  have h1 : (IntKind.u64.wrap n).tmod ((m : Int) + 1) = IntKind.u64.wrap n % ((m : Int) + 1) := Int.tmod_eq_emod_of_nonneg h0
  have h2 := Int.emod_nonneg (IntKind.u64.wrap n) (show ((m : Int) + 1) ≠ 0 by omega)
  have h3 := Int.emod_lt_of_pos (IntKind.u64.wrap n) (show (0 : Int) < (m : Int) + 1 by omega)
  rw [h1]
  refine ⟨(IntKind.u64.wrap n % ((m : Int) + 1)).toNat, by omega, ?_⟩
  rw [IntWalk.wrap64_in _ (by omega)]; omega
/-- The rows' digests, one pack behind the other. -/
def rowG (gs : List (List ByteArray)) (k : Nat) : List ByteArray := (gs.take k).flatten.map dgT
theorem rowG_succ {gs : List (List ByteArray)} {k : Nat} (h : k < gs.length) : rowG gs (k + 1) = rowG gs k ++ (grp gs k).map dgT := by
  unfold rowG
  rw [grp_get h, ← List.take_append_getElem h, List.flatten_append]; simp
theorem rowG_length (gs : List (List ByteArray)) (k : Nat) : (rowG gs k).length = cntG (gs.take k) := by unfold rowG cntG; rw [List.length_map]
theorem firsts_pre (l : List ByteArray) {k m : Nat} (h : k ≤ m) : firsts l k <+: firsts l m := by
  induction m with
  | zero => rw [show k = 0 from by omega]; exact List.prefix_rfl
  | succ m ih =>
    rcases Nat.eq_or_lt_of_le h with e | e
    · rw [e]; exact List.prefix_rfl
    · refine (ih (by omega)).trans ?_
      rw [firsts_succ]
      split
      · exact List.prefix_rfl
      · exact List.prefix_append _ _
/-- Where a chunk that came first stands. -/
theorem firsts_at {l : List ByteArray} {k : Nat} (h : k < l.length) (hn : hasT (l.take k) (atP l k) = false) : (firsts l k).length < (firsts l l.length).length ∧ (firsts l l.length)[(firsts l k).length]? = some (atP l k) := by
  have h1 : firsts l (k + 1) = firsts l k ++ [atP l k] := by rw [firsts_succ, hn]; rfl
  obtain ⟨t, ht⟩ := firsts_pre l (show k + 1 ≤ l.length from h)
  rw [h1] at ht
  constructor
  · rw [← ht]; simp
  · rw [← ht]; simp
theorem row_all (l : List ByteArray) : rowG (gath l) (gath l).length = (firsts l l.length).map dgT := by unfold rowG; rw [List.take_length, gath_flat]
theorem texts_news {w : World} {b off n c : Nat} {l : List ByteArray} (s : TextsAt w.heap (.slice (some ⟨b, off, none⟩) n c) l) : ∀ j (h : j < (l.map (Value.string ·)).length), w.cell? ⟨b, off + j, none⟩ = some (l.map (Value.string ·))[j] := fun j h => by
  obtain ⟨u, h1, h2⟩ := seq_at s (i := j) (by simpa using h)
  unfold IsText at h2
  rw [h1, h2]; simp
theorem texts_one (l : List ByteArray) : ∀ u ∈ l.map (Value.string ·), u.oneCell' = true := fun u hu => by
  obtain ⟨x, _, rfl⟩ := List.mem_map.1 hu; rfl
theorem own_texts {w' : World} {base : Nat} {v' : Value} {l m : List ByteArray} {us : List Value} (h1 : us.length = l.length) (h2 : ∀ i (h : i < us.length) (h' : i < l.length), IsText us[i] l[i]) (h3 : w'.ownsRow base 9 1 v' (us.length + m.length) (us ++ m.map (Value.string ·))) : OwnSeq base 9 IsText w' v' (l ++ m) := by
  refine ⟨us ++ m.map (Value.string ·), by rw [List.length_append, List.length_map]; exact h3, by simp [h1], fun i hi hi' => ?_⟩
  by_cases e : i < us.length
  · rw [List.getElem_append_left e, List.getElem_append_left (by omega)]; exact h2 i e (by omega)
  · rw [List.getElem_append_right (by omega), List.getElem_append_right (by omega)]
    simp [IsText, h1]
theorem hasT_succ {l : List ByteArray} {m : Nat} (h : m < l.length) (c : ByteArray) : hasT (l.take (m + 1)) c = (hasT (l.take m) c || decide (atP l m = c)) := by
  rw [take_snoc h]; unfold hasT; rw [List.any_append]; simp
set_option maxRecDepth 100000 in
set_option maxHeartbeats 8000000 in
theorem pkfirst_any (v : Value) (l : List ByteArray) (n : Int) (w : World) (h : TextsAt w.heap v l) (hcp : ∀ a n q, v = .slice a n q → n ≤ q) (hn : -9223372036854775808 ≤ n ∧ n ≤ 9223372036854775807) : Calls Try.prog 11 #[v, .int .i64 n] w fun e w' => e = .returned (.bool true) ∧ Keeps w w' := by
  obtain ⟨p, q, rfl⟩ := seq_shape h
  have hlq : l.length ≤ q := hcp _ _ _ rfl
  clear hcp
  have H := Lib.hid h
  have hn1 := hn.1
  have hn2 := hn.2
  clear h hn
  cases hlb : longB l with
  | true =>
    have HL := Lib.hid hlb
    clear hlb
    go_enter Try.func11, Try.ntmps11
    go_wp2_with fail
    refine Calls.mono (plong16_any _ l _ H.out) ?_
    rintro e w' ⟨rfl, rfl⟩
    rw [HL.out]
    go_wp2_with fail
    refine Calls.mono (pawake_any _) ?_
    rintro e w1 ⟨rfl, hk⟩
    go_wp2_with fail
    go_ret
    exact ⟨rfl, hk⟩
  | false =>
  have HL := Lib.hid hlb
  obtain ⟨hs, htl⟩ := longB_no hlb
  have hlen : l.length ≤ 4000 := by omega
  have htot : total l ≤ 80000 := by omega
  clear hlb hs htl
  obtain ⟨κ, hκ, hke⟩ := rem_k n l.length (by omega)
  have HKE := Lib.hid hke
  have htk := total_le l κ
  have hlk : (l.take κ).length ≤ 4000 := by rw [List.length_take]; omega
  have HFR := Lib.hid (fun wx => run_frontT p l.length q κ (by omega) wx)
  have HTK : Hid ((l.take κ).length = κ) := by show _ = _; rw [List.length_take]; omega
  go_enter Try.func11, Try.ntmps11
  go_wp2_with fail
  refine Calls.mono (plong16_any _ l _ H.out) ?_
  rintro e w' ⟨rfl, rfl⟩
  rw [HL.out]
  go_wp2_with fail
  refine Calls.mono (pawake_any _) ?_
  rintro e w1 ⟨rfl, hk⟩
  have HK1 := Lib.hid hk
  have H1 := Lib.hid (SeqAt.keeps H.out hk)
  clear hk
  cases hb : badG l with
  | true =>
    have HBD := Lib.hid hb
    clear hb
    have hfr := HFR.out
    go_wp2_with fail
    refine Calls.mono (give_no (gather_any _ l _ H1.out (by omega) (by omega)) HBD.out) ?_
    rintro e w2 ⟨rfl, hk⟩
    have HK2 := Lib.hid (HK1.out.trans hk)
    have H2 := Lib.hid (SeqAt.keeps H1.out hk)
    clear hk
    go_wp2_with fail
    refine Calls.mono (gather_any _ (l.take κ) _ (seq_front H2.out hκ q) (by omega) (by omega)) ?_
    rintro e w3 ⟨v3, h3, hk⟩
    have HK3 := Lib.hid (HK2.out.trans hk)
    obtain ⟨er, rfl⟩ : ∃ er : Int, e = .returned (.tuple #[v3, .int .i64 er]) := by
      cases hb2 : badG (l.take κ) with
      | true => rw [hb2] at h3; exact ⟨4, h3.2⟩
      | false => rw [hb2] at h3; exact ⟨0, h3.1⟩
    clear hk h3
    go_wp2_with fail
    go_ret
    exact ⟨rfl, HK3.out⟩
  | false =>
  have HBD := Lib.hid hb
  have HBT := Lib.hid (badG_take hb κ)
  have HGF := Lib.hid (gath_first l hκ)
  have hfr := HFR.out
  clear hb
  go_wp2_with fail
  refine Calls.mono (give_yes (gather_any _ l _ H1.out (by omega) (by omega)) HBD.out rfl) ?_
  rintro e w2 ⟨v2, rfl, hr, hk⟩
  have HK2 := Lib.hid (HK1.out.trans hk)
  have H2 := Lib.hid (SeqAt.keeps H1.out hk)
  have HR2 := Lib.hid hr.at_
  obtain ⟨pg, qg, rfl⟩ := rec_shape hr.at_
  clear hr hk
  go_wp2_with fail
  refine Calls.mono (give_yes (gather_any _ (l.take κ) _ (seq_front H2.out hκ q) (by omega) (by omega)) HBT.out rfl) ?_
  rintro e w3 ⟨v3, rfl, hr, hk⟩
  have HK3 := Lib.hid (HK2.out.trans hk)
  have H3 := Lib.hid (SeqAt.keeps H2.out hk)
  have HG : Hid (RecAt 4 (IsPack (w1.heap.size ≤ ·) w3.heap) w3.heap (.slice pg (gath l).length qg) (gath l)) := RecAt.keepsR HR2.out hk fun u x _ r => r.keeps hk
  have HS := Lib.hid hr.at_
  obtain ⟨ps, qs, rfl⟩ := rec_shape hr.at_
  clear hr hk HR2 hke hfr
  have HGL : Hid ((gath l).length ≤ cntG (gath l) ∧ cntG (gath l) ≤ l.length) := gath_len l HBD.out
  have HRA := Lib.hid (row_all l)
  try rw [HKE.out]
  generalize IntKind.u64.wrap n = n9
  generalize Int.tmod n9 ((l.length : Int) + 1) = n8
  have hgsl : (gath l).length ≤ 4000 := by have := HGL.out; omega
  have hsgl := HGF.out.1
  have HFS : Hid (∀ i, i + 1 < (gath (l.take κ)).length → grp (gath (l.take κ)) i = grp (gath l) i) := fun i hi => by
    unfold grp; rw [List.getD_eq_getElem?_getD, List.getD_eq_getElem?_getD, HGF.out.2 i hi]
  clear HGF
  generalize gath (l.take κ) = sg at *
  have j1 : decide ((gath l).length < sg.length) = false := decide_eq_false (by omega)
  have j2 : decide (((gath l).length : Int) < (sg.length : Int)) = false := decide_eq_false (by omega)
  generalize hgs : gath l = gs at *
  have HGS := Lib.hid hgs
  clear hgs
  go_wp2_with fail
  go_loopw [10] (fun i wr => ∃ k : Nat, (k < sg.length ∨ k = 0) ∧ i = .int .i64 k ∧ Hid (Keeps w3 wr)) (fun i _ => sg.length - (intOf i).toNat)
  case atStart => exact ⟨0, by omega, rfl, keeps_refl w3⟩
  case round =>
    obtain ⟨k, hk, rfl, hK⟩ := hrel
    by_cases hlt : k + 1 < sg.length
    · have hlt64 : (k : Int) + 1 < (sg.length : Int) := by omega
      have hk0 : (0 : Int) ≤ (k : Int) := by omega
      have hks : k < sg.length := by omega
      have hkg : k < gs.length := by omega
      have hk1 : (k : Int) < (sg.length : Int) := by omega
      have hk2 : (k : Int) < (gs.length : Int) := by omega
      obtain ⟨b, o, _, us, e5, hus, hc, c, pp, rfl, _, _⟩ := rec_cell (RecAt.keeps HS.out hK.out) hks
      obtain ⟨b2, o2, _, us2, e52, hus2, hc2, c2, pp2, rfl, _, _⟩ := rec_cell (RecAt.keeps HG.out hK.out) hkg
      injection e5 with e6 e7 e8
      injection e52 with e62 e72 e82
      subst e6 e8 e62 e82
      have hgg := HFS.out k hlt
      rw [← grp_get hks, hgg] at hc
      rw [← grp_get hkg] at hc2
      have K0 := Lib.hid (hc 0 (by simp))
      have K1 := Lib.hid (hc 1 (by simp))
      have J0 := Lib.hid (hc2 0 (by simp))
      have J1 := Lib.hid (hc2 1 (by simp))
      simp only [List.getElem_cons_zero, List.getElem_cons_succ, Nat.add_zero] at K0 K1 J0 J1
      clear hc hc2 hus hus2 e7 e72 hgg
      generalize strB (blobP (grp gs k)) = B at *
      generalize dgP (grp gs k) = D at *
      go_wp2_with fail
      refine wp_region_stage [65, 66, 67, 68, 69, 70, 71, 72, 73, 74, 75, 76, 77, 78, 79, 80, 81, 82, 83, 84, 85, 86, 87, 88] [[], [], [0, 1], [2], [3], [], [], [5, 6], [7], [8], [4, 9], [10], [11], [11], [11, 12, 13], [11, 14], [11, 15], [11], [11], [11, 17, 18], [11, 19], [11, 20], [11, 16, 21], [11, 22]] [] [0, 0, 0, 0, 0, 0, 0, 0, 0, 0, 0, 0, 0, 0, 0, 0, 0, 0, 0, 0, 0, 0, 0, 0] [] (fun i v _ => pfirst13 b o sg.length qs b2 o2 gs.length qg k B D i v) (fun w w' => Keeps w w') (fun _ _ w' => Keeps wr w') (by kernel_rfl) (by kernel_rfl) (by kernel_rfl) (by kernel_rfl) (by kernel_rfl) (by kernel_rfl) (by kernel_rfl) ?_ ?_ ?_ ?_ ?_ ?_ ?_
      · exact fun i v w w' c h => h
      · exact fun w => keeps_refl w
      · exact fun i s vs w _ h => h
      · refine ⟨?_, ?_, ?_, ?_, ?_, ?_, ?_, ?_, ?_, ?_, ?_, ?_, ?_, ?_, ?_, ?_, ?_, ?_, ?_, ?_, ?_, ?_, ?_, ?_, trivial⟩
        · exact fun g b h => by (cases h)
        · exact fun g b h => by (cases h)
        · exact fun g b h => by (cases h)
        · exact fun g b h => by (cases h)
        · exact fun g b h => by (cases h)
        · exact fun g b h => by (cases h)
        · exact fun g b h => by (cases h)
        · exact fun g b h => by (cases h)
        · exact fun g b h => by (cases h)
        · exact fun g b h => by (cases h)
        · exact fun g b h => by (cases h)
        · exact fun g b h => by (cases h)
        · exact fun g b h => by (cases h; exact ⟨by decide, fun v w h => h⟩)
        · exact fun g b h => by (cases h; exact ⟨by decide, fun v w h => h⟩)
        · exact fun g b h => by (cases h; exact ⟨by decide, fun v w h => h⟩)
        · exact fun g b h => by (cases h; exact ⟨by decide, fun v w h => h⟩)
        · exact fun g b h => by (cases h; exact ⟨by decide, fun v w h => h⟩)
        · exact fun g b h => by (cases h; exact ⟨by decide, fun v w h => h⟩)
        · exact fun g b h => by (cases h; exact ⟨by decide, fun v w h => h⟩)
        · exact fun g b h => by (cases h; exact ⟨by decide, fun v w h => h⟩)
        · exact fun g b h => by (cases h; exact ⟨by decide, fun v w h => h⟩)
        · exact fun g b h => by (cases h; exact ⟨by decide, fun v w h => h⟩)
        · exact fun g b h => by (cases h; exact ⟨by decide, fun v w h => h⟩)
        · exact fun g b h => by (cases h)
      · exact fun _ _ => keeps_refl wr
      · refine ⟨?_, ?_, ?_, ?_, ?_, ?_, ?_, ?_, ?_, ?_, ?_, ?_, ?_, ?_, ?_, ?_, ?_, ?_, ?_, ?_, ?_, ?_, ?_, ?_, trivial⟩
        · intro _ a w1 vs hI ho hn hu K hK
          have e8 : a.tmps[8]? = some (.slice (some ⟨b, o, none⟩) sg.length qs) := ho 8 rfl
          clear hn ho hu
          go_simp
          exact hK _ _ (keeps_refl _) hI rfl
        · intro _ a w1 vs hI ho hn hu K hK
          have e10 : a.tmps[10]? = some (.int .i64 (k : Int)) := ho 10 rfl
          clear hn ho hu
          go_simp
          exact hK _ _ (keeps_refl _) hI rfl
        · intro _ a w1 vs hI ho hn hu K hK
          obtain ⟨e65, g65⟩ : a.tmps[65]? = some (vs 0) ∧ vs 0 = .slice (some ⟨b, o, none⟩) sg.length qs := hn 0 (by decide)
          rw [g65] at e65
          clear g65
          obtain ⟨e66, g66⟩ : a.tmps[66]? = some (vs 1) ∧ vs 1 = .int .i64 (k : Int) := hn 1 (by decide)
          rw [g66] at e66
          clear g66
          clear hn ho hu
          go_simp
          exact hK _ _ (keeps_refl _) hI rfl
        · intro _ a w1 vs hI ho hn hu K hK
          obtain ⟨e67, g67⟩ : a.tmps[67]? = some (vs 2) ∧ vs 2 = .pointer (some ⟨b, o + k * 4, none⟩) := hn 2 (by decide)
          rw [g67] at e67
          clear g67
          clear hn ho hu
          go_simp
          exact hK _ _ (keeps_refl _) hI rfl
        · intro _ a w1 vs hI ho hn hu K hK
          obtain ⟨e68, g68⟩ : a.tmps[68]? = some (vs 3) ∧ vs 3 = .pointer (some ⟨b, o + k * 4, none⟩) := hn 3 (by decide)
          rw [g68] at e68
          clear g68
          clear hn ho hu
          have c0 := keeps_cell hI K0.out
          go_simp
          exact hK _ _ (keeps_refl _) hI rfl
        · intro _ a w1 vs hI ho hn hu K hK
          have e5 : a.tmps[5]? = some (.slice (some ⟨b2, o2, none⟩) gs.length qg) := ho 5 rfl
          clear hn ho hu
          go_simp
          exact hK _ _ (keeps_refl _) hI rfl
        · intro _ a w1 vs hI ho hn hu K hK
          have e10 : a.tmps[10]? = some (.int .i64 (k : Int)) := ho 10 rfl
          clear hn ho hu
          go_simp
          exact hK _ _ (keeps_refl _) hI rfl
        · intro _ a w1 vs hI ho hn hu K hK
          obtain ⟨e70, g70⟩ : a.tmps[70]? = some (vs 5) ∧ vs 5 = .slice (some ⟨b2, o2, none⟩) gs.length qg := hn 5 (by decide)
          rw [g70] at e70
          clear g70
          obtain ⟨e71, g71⟩ : a.tmps[71]? = some (vs 6) ∧ vs 6 = .int .i64 (k : Int) := hn 6 (by decide)
          rw [g71] at e71
          clear g71
          clear hn ho hu
          go_simp
          exact hK _ _ (keeps_refl _) hI rfl
        · intro _ a w1 vs hI ho hn hu K hK
          obtain ⟨e72, g72⟩ : a.tmps[72]? = some (vs 7) ∧ vs 7 = .pointer (some ⟨b2, o2 + k * 4, none⟩) := hn 7 (by decide)
          rw [g72] at e72
          clear g72
          clear hn ho hu
          go_simp
          exact hK _ _ (keeps_refl _) hI rfl
        · intro _ a w1 vs hI ho hn hu K hK
          obtain ⟨e73, g73⟩ : a.tmps[73]? = some (vs 8) ∧ vs 8 = .pointer (some ⟨b2, o2 + k * 4, none⟩) := hn 8 (by decide)
          rw [g73] at e73
          clear g73
          clear hn ho hu
          have c0 := keeps_cell hI J0.out
          go_simp
          exact hK _ _ (keeps_refl _) hI rfl
        · intro _ a w1 vs hI ho hn hu K hK
          obtain ⟨e69, g69⟩ : a.tmps[69]? = some (vs 4) ∧ vs 4 = .string B := hn 4 (by decide)
          rw [g69] at e69
          clear g69
          obtain ⟨e74, g74⟩ : a.tmps[74]? = some (vs 9) ∧ vs 9 = .string B := hn 9 (by decide)
          rw [g74] at e74
          clear g74
          clear hn ho hu
          go_simp
          exact hK _ _ (keeps_refl _) hI rfl
        · intro _ a w1 vs hI ho hn hu K hK
          obtain ⟨e75, g75⟩ : a.tmps[75]? = some (vs 10) ∧ vs 10 = .bool false := hn 10 (by decide)
          rw [g75] at e75
          clear g75
          clear hn ho hu
          go_simp
          exact hK _ _ (keeps_refl _) hI rfl
        · intro _ a w1 vs hI ho hn hu K hK
          have e8 : a.tmps[8]? = some (.slice (some ⟨b, o, none⟩) sg.length qs) := ho 8 rfl
          clear hn ho hu
          go_simp
          exact hK _ _ (keeps_refl _) hI rfl
        · intro _ a w1 vs hI ho hn hu K hK
          have e10 : a.tmps[10]? = some (.int .i64 (k : Int)) := ho 10 rfl
          clear hn ho hu
          go_simp
          exact hK _ _ (keeps_refl _) hI rfl
        · intro _ a w1 vs hI ho hn hu K hK
          obtain ⟨e77, g77⟩ : a.tmps[77]? = some (vs 12) ∧ vs 12 = .slice (some ⟨b, o, none⟩) sg.length qs := hn 12 (by decide)
          rw [g77] at e77
          clear g77
          obtain ⟨e78, g78⟩ : a.tmps[78]? = some (vs 13) ∧ vs 13 = .int .i64 (k : Int) := hn 13 (by decide)
          rw [g78] at e78
          clear g78
          clear hn ho hu
          go_simp
          exact hK _ _ (keeps_refl _) hI rfl
        · intro _ a w1 vs hI ho hn hu K hK
          obtain ⟨e79, g79⟩ : a.tmps[79]? = some (vs 14) ∧ vs 14 = .pointer (some ⟨b, o + k * 4, none⟩) := hn 14 (by decide)
          rw [g79] at e79
          clear g79
          clear hn ho hu
          go_simp
          exact hK _ _ (keeps_refl _) hI rfl
        · intro _ a w1 vs hI ho hn hu K hK
          obtain ⟨e80, g80⟩ : a.tmps[80]? = some (vs 15) ∧ vs 15 = .pointer (some ⟨b, o + k * 4 + 1, none⟩) := hn 15 (by decide)
          rw [g80] at e80
          clear g80
          clear hn ho hu
          have c0 := keeps_cell hI K1.out
          go_simp
          exact hK _ _ (keeps_refl _) hI rfl
        · intro _ a w1 vs hI ho hn hu K hK
          have e5 : a.tmps[5]? = some (.slice (some ⟨b2, o2, none⟩) gs.length qg) := ho 5 rfl
          clear hn ho hu
          go_simp
          exact hK _ _ (keeps_refl _) hI rfl
        · intro _ a w1 vs hI ho hn hu K hK
          have e10 : a.tmps[10]? = some (.int .i64 (k : Int)) := ho 10 rfl
          clear hn ho hu
          go_simp
          exact hK _ _ (keeps_refl _) hI rfl
        · intro _ a w1 vs hI ho hn hu K hK
          obtain ⟨e82, g82⟩ : a.tmps[82]? = some (vs 17) ∧ vs 17 = .slice (some ⟨b2, o2, none⟩) gs.length qg := hn 17 (by decide)
          rw [g82] at e82
          clear g82
          obtain ⟨e83, g83⟩ : a.tmps[83]? = some (vs 18) ∧ vs 18 = .int .i64 (k : Int) := hn 18 (by decide)
          rw [g83] at e83
          clear g83
          clear hn ho hu
          go_simp
          exact hK _ _ (keeps_refl _) hI rfl
        · intro _ a w1 vs hI ho hn hu K hK
          obtain ⟨e84, g84⟩ : a.tmps[84]? = some (vs 19) ∧ vs 19 = .pointer (some ⟨b2, o2 + k * 4, none⟩) := hn 19 (by decide)
          rw [g84] at e84
          clear g84
          clear hn ho hu
          go_simp
          exact hK _ _ (keeps_refl _) hI rfl
        · intro _ a w1 vs hI ho hn hu K hK
          obtain ⟨e85, g85⟩ : a.tmps[85]? = some (vs 20) ∧ vs 20 = .pointer (some ⟨b2, o2 + k * 4 + 1, none⟩) := hn 20 (by decide)
          rw [g85] at e85
          clear g85
          clear hn ho hu
          have c0 := keeps_cell hI J1.out
          go_simp
          exact hK _ _ (keeps_refl _) hI rfl
        · intro _ a w1 vs hI ho hn hu K hK
          obtain ⟨e81, g81⟩ : a.tmps[81]? = some (vs 16) ∧ vs 16 = .string D := hn 16 (by decide)
          rw [g81] at e81
          clear g81
          obtain ⟨e86, g86⟩ : a.tmps[86]? = some (vs 21) ∧ vs 21 = .string D := hn 21 (by decide)
          rw [g86] at e86
          clear g86
          clear hn ho hu
          go_simp
          exact hK _ _ (keeps_refl _) hI rfl
        · intro _ a w1 vs hI ho hn hu K hK
          obtain ⟨e76, g76⟩ : a.tmps[76]? = some (vs 11) ∧ vs 11 = .bool false := hn 11 (by decide)
          rw [g76] at e76
          clear g76
          obtain ⟨e87, g87⟩ : a.tmps[87]? = some (vs 22) ∧ vs 22 = .bool false := hn 22 (by decide)
          rw [g87] at e87
          clear g87
          clear hn ho hu
          go_simp
          exact hK _ _ (keeps_refl _) hI rfl
      · intro vs wE hI hG
        have eL23 : vs 23 = .bool false := hG 23 (by decide)
        have HKE := Lib.hid hI
        clear hG hI
        simp only [setAll, Nat.zero_add, Nat.reduceAdd, List.setIfInBounds_toArray, List.set_cons_zero, List.set_cons_succ, eL23]
        clear eL23
        generalize vs 0 = y0 at *
        generalize vs 1 = y1 at *
        generalize vs 2 = y2 at *
        generalize vs 3 = y3 at *
        generalize vs 4 = y4 at *
        generalize vs 5 = y5 at *
        generalize vs 6 = y6 at *
        generalize vs 7 = y7 at *
        generalize vs 8 = y8 at *
        generalize vs 9 = y9 at *
        generalize vs 10 = y10 at *
        generalize vs 11 = y11 at *
        generalize vs 12 = y12 at *
        generalize vs 13 = y13 at *
        generalize vs 14 = y14 at *
        generalize vs 15 = y15 at *
        generalize vs 16 = y16 at *
        generalize vs 17 = y17 at *
        generalize vs 18 = y18 at *
        generalize vs 19 = y19 at *
        generalize vs 20 = y20 at *
        generalize vs 21 = y21 at *
        generalize vs 22 = y22 at *
        go_wp2_with fail
        exact ⟨⟨k + 1, by omega, by go_num, hK.out.trans HKE.out⟩, by simp [intOf]; omega⟩
    · have hge : ¬ (k : Int) + 1 < (sg.length : Int) := by omega
      obtain ⟨w4, hw4⟩ : ∃ w4 : World, w4 = wr := ⟨_, rfl⟩
      rw [← hw4] at hK ⊢
      clear hw4
      have HG4 : Hid (RecAt 4 (IsPack (w1.heap.size ≤ ·) w4.heap) w4.heap (.slice pg gs.length qg) gs) := RecAt.keepsR HG.out hK.out fun u x _ r => r.keeps hK.out
      have HK4 := Lib.hid (HK3.out.trans hK.out)
      have H4 := Lib.hid (SeqAt.keeps H3.out hK.out)
      clear hK HG HK3 H3 HS HFS
      go_wp2_with fail
      go_loopw [11, 12] (fun r i wr => ∃ k : Nat, k ≤ gs.length ∧ i = .int .i64 k ∧ Hid (OwnSeq w4.heap.size 9 IsText wr r (rowG gs k)) ∧ Hid (Keeps w4 wr)) (fun _ i _ => gs.length - (intOf i).toNat)
      case atStart => exact ⟨0, by omega, rfl, by exact OwnSeq.nil _ _ _ _, keeps_refl w4⟩
      case round =>
        obtain ⟨k, hk, rfl, hO, hK⟩ := hrel
        by_cases hlt : k < gs.length
        · have hlt64 : (k : Int) < (gs.length : Int) := by omega
          have hk0 : (0 : Int) ≤ (k : Int) := by omega
          obtain ⟨b2, o2, _, us2, e52, hus2, hc2, c2, pp2, rfl, ht2, _⟩ := rec_cell (RecAt.keepsR HG4.out hK.out fun u x _ r => IsPack.keeps r hK.out) hlt
          injection e52 with e62 e72 e82
          subst e62 e82
          rw [← grp_get hlt] at hc2 ht2
          have hpos : 0 < ((grp gs k).map dgT).length := by
            rw [List.length_map]
            exact List.length_pos_iff.2 (mayP_ne (gath_good HBD.out _ (by rw [HGS.out]; exact grp_mem hlt)))
          obtain ⟨b3, o3, q3, _, rfl, _, _⟩ := seq_cell (SeqIn.at_ ht2) hpos
          have d2 := hc2 2 (by simp)
          simp only [List.getElem_cons_zero, List.getElem_cons_succ] at d2
          have HT2 := Lib.hid (SeqIn.at_ ht2)
          have HRS := Lib.hid (rowG_succ hlt)
          have hrl := rowG_length gs k
          have hft := flat_take hlt
          have hfm := flat_mono (gs := gs) (k + 1)
          have hgl := HGL.out.2
          obtain ⟨us, hu1, hu2, hu3⟩ := hO.out
          obtain ⟨po, qo, rfl⟩ := own_slice hu1
          have HU := Lib.hid hu1
          have HU2 := Lib.hid hu2
          have HU3 := Lib.hid hu3
          have hul : us.length + ((grp gs k).map dgT).length ≤ 4000 := by rw [List.length_map]; omega
          have hmm : (((grp gs k).map dgT).map (Value.string ·)).length = ((grp gs k).map dgT).length := List.length_map ..
          have hbase : w4.heap.size ≤ wr.heap.size := hK.out.size
          clear hc2 hus2 e72 ht2 hu1 hu2 hu3 hrl hft hfm hgl
          generalize (grp gs k).map dgT = m at *
          have HMM := Lib.hid hmm
          clear hmm
          go_wp2_with (at_builtin; refine wp_apps elText rfl (.tmp 95) (.tmp 100) rfl w4.heap.size (.slice po us.length qo) us rfl HU.out b3 o3 m.length q3 (m.map (Value.string ·)) rfl HMM.out (texts_news HT2.out) (texts_one m) (by rw [HMM.out]; omega) hbase ?_)
          intro v' w5 hown hch
          have HO5 : Hid (OwnSeq w4.heap.size 9 IsText w5 v' (rowG gs (k + 1))) := by
            show OwnSeq _ _ _ _ _ _
            rw [HRS.out]
            exact own_texts HU2.out HU3.out hown
          have HK5 : Hid (Keeps w4 w5) := hK.out.then (chg_kept hch (fun x _ e => (own_block HU.out x e).1) hbase) (Nat.le_refl _)
          clear hown hch
          go_wp2_with fail
          exact ⟨⟨k + 1, by omega, by go_num, HO5, HK5⟩, by simp [intOf]; omega⟩
        · obtain rfl : k = gs.length := by omega
          obtain ⟨wz, hwz⟩ : ∃ wz : World, wz = wr := ⟨_, rfl⟩
          rw [← hwz] at hK hO ⊢
          clear hwz
          have HKZ := Lib.hid (HK4.out.trans hK.out)
          have HZ := Lib.hid (SeqAt.keeps H4.out hK.out)
          have hfl := firsts_length (l := l) (k := l.length)
          have HRW : Hid (TextsAt wz.heap u11 ((firsts l l.length).map dgT)) := by
            have hh := hO.out
            rw [HRA.out] at hh
            exact SeqIn.at_ (hh.seq (by rw [List.length_map]; omega))
          obtain ⟨pr, qr, rfl⟩ := seq_shape HRW.out
          have HLR : Hid (((firsts l l.length).map dgT).length = (firsts l l.length).length) := List.length_map ..
          rw [HLR.out] at HRW ⊢
          clear hO hK HG4 HK4 H4 HGL HRA hn1 hn2 hlq htk hlk hgsl hsgl j1 j2 hge HFR HTK HL HBT HK1 HK2 H1 H2
          generalize hLn : (firsts l l.length).length = L at *
          have HLN := Lib.hid hLn
          clear hLn
          go_wp2_with fail
          go_loopw [13, 14] (fun t i wr => ∃ k : Nat, k ≤ l.length ∧ i = .int .i64 k ∧ t = .int .i64 ((firsts l k).length : Int) ∧ Hid (Keeps wz wr)) (fun _ i _ => l.length - (intOf i).toNat)
          case atStart => exact ⟨0, by omega, rfl, rfl, keeps_refl wz⟩
          case round =>
            obtain ⟨k, hk, rfl, rfl, hK⟩ := hrel
            by_cases hlt : k < l.length
            · obtain ⟨wq, rfl⟩ : ∃ wq : World, wq = wr := ⟨_, rfl⟩
              have hlt64 : (k : Int) < (l.length : Int) := by omega
              have hk0 : (0 : Int) ≤ (k : Int) := by omega
              obtain ⟨b2, o2, q2, u, e5, d1, r1⟩ := seq_cell (SeqAt.keeps HZ.out hK.out) hlt
              injection e5 with e6 e7 e8
              subst e6 e8
              unfold IsText at r1
              subst r1
              rw [← atP_get hlt] at d1
              have HFS := Lib.hid (firsts_succ l k)
              have HFA := Lib.hid (fun h => firsts_at (l := l) hlt h)
              have HCZ : Hid ((atP l k).size ≤ 16384) := (badG_at HBD.out hlt).2
              have HCX : Hid (∀ wx, Keeps wq wx → wx.cell? ⟨b2, o2 + k, none⟩ = some (.string (atP l k))) := fun wx hx => keeps_cell hx d1
              clear e7
              generalize hc : atP l k = c at *
              have HC := Lib.hid hc
              clear hc
              go_wp2_with fail
              go_loopw [15, 16] (fun f j wy => ∃ m : Nat, m ≤ k ∧ j = .int .i64 m ∧ f = .bool (!hasT (l.take m) c) ∧ Hid (Keeps wq wy)) (fun _ j _ => k - (intOf j).toNat)
              case atStart => exact ⟨0, by omega, rfl, rfl, keeps_refl wq⟩
              case round =>
                obtain ⟨m, hm, rfl, rfl, hM⟩ := hrel
                by_cases hmk : m < k
                · have hm64 : (m : Int) < (k : Int) := by omega
                  have hm0 : (0 : Int) ≤ (m : Int) := by omega
                  have hml : m < l.length := by omega
                  have hml64 : (m : Int) < (l.length : Int) := by omega
                  obtain ⟨u, d3, r3⟩ := seq_at (SeqAt.keeps (SeqAt.keeps HZ.out hK.out) hM.out) hml
                  unfold IsText at r3
                  subst r3
                  rw [← atP_get hml] at d3
                  have d4 := HCX.out _ hM.out
                  have HS1 := Lib.hid (hasT_succ hml c)
                  generalize hasT (l.take m) c = f0 at *
                  generalize atP l m = sm at *
                  cases f0 with
                  | true =>
                    simp only [Bool.not_true]
                    have HS2 : Hid (hasT (l.take (m + 1)) c = true) := by show _ = _; rw [HS1.out]; rfl
                    clear HS1 d3 d4
                    go_wp2_with fail
                    go_quiet (fail)
                    go_wp2
                    exact ⟨⟨m + 1, by omega, by go_num, by rw [HS2.out]; rfl, hM⟩, by simp [intOf]; omega⟩
                  | false =>
                    simp only [Bool.not_false]
                    by_cases hse : sm = c
                    · have HS2 : Hid (hasT (l.take (m + 1)) c = true) := by show _ = _; rw [HS1.out, decide_eq_true hse]; rfl
                      have hq : (sm.toList == c.toList) = true := by rw [hse]; simp
                      clear HS1 hse
                      go_wp2_with fail
                      go_quiet (fail)
                      go_wp2
                      exact ⟨⟨m + 1, by omega, by go_num, by rw [HS2.out]; rfl, hM⟩, by simp [intOf]; omega⟩
                    · have HS2 : Hid (hasT (l.take (m + 1)) c = false) := by show _ = _; rw [HS1.out, decide_eq_false hse]; rfl
                      have hq : (sm.toList == c.toList) = false := by rw [txt_eq, decide_eq_false hse]
                      clear HS1 hse
                      go_wp2_with fail
                      go_quiet (fail)
                      go_wp2
                      exact ⟨⟨m + 1, by omega, by go_num, by rw [HS2.out]; rfl, hM⟩, by simp [intOf]; omega⟩
                · obtain rfl : m = k := by omega
                  cases hh : hasT (l.take m) c with
                  | true =>
                    have HE : Hid (firsts l (m + 1) = firsts l m) := by show _ = _; rw [HFS.out, hh]; rfl
                    clear hh HFS HFA
                    simp only [Bool.not_true]
                    go_wp2_with fail
                    exact ⟨⟨m + 1, by omega, by go_num, by rw [HE.out], hK.out.trans hM.out⟩, by simp [intOf]; omega⟩
                  | false =>
                    have HF1 : Hid (((firsts l (m + 1)).length : Int) = ((firsts l m).length : Int) + 1) := by show _ = _; rw [HFS.out, hh]; simp
                    obtain ⟨ha1, ha2⟩ := HFA.out (by rw [hh])
                    rw [HLN.out] at ha1
                    have hrl : (firsts l m).length < ((firsts l l.length).map dgT).length := by rw [List.length_map, HLN.out]; exact ha1
                    obtain ⟨b3, o3, _, u, e5, k0, r0⟩ := seq_cell (SeqAt.keeps (SeqAt.keeps HRW.out hK.out) hM.out) hrl
                    injection e5 with e6 e7 e8
                    subst e6 e8
                    unfold IsText at r0
                    subst r0
                    have hdg : ((firsts l l.length).map dgT)[(firsts l m).length] = dgT c := by
                      rw [List.getElem_map]
                      congr 1
                      exact (List.getElem?_eq_some_iff.1 ha2).2
                    rw [hdg] at k0
                    have K0 := Lib.hid k0
                    have J0 := Lib.hid (HCX.out _ hM.out)
                    have HSU : Hid (∀ wx, Calls Try.prog 34 #[.string c] wx fun e w' => e = .returned (.string (dgT c)) ∧ Keeps wx w') := fun wx => dsum_any _ wx (by have := HCZ.out; omega)
                    have HZ1 : Hid (decide ((L : Int) ≤ ((firsts l m).length : Int)) = false) := decide_eq_false (by omega)
                    have HZ2 : Hid (decide (L ≤ (firsts l m).length) = false) := decide_eq_false (by omega)
                    have htl : (firsts l m).length < 4000 := by omega
                    clear hh HFS HFA ha2 e7 hdg k0 hrl
                    simp only [Bool.not_false]
                    generalize dgT c = D at *
                    generalize (firsts l m).length = T at *
                    go_wp2_with fail
                    refine wp_region_stage [127, 128, 129, 130, 131, 132, 133, 134, 135, 136, 137, 138, 139, 140, 141, 142] [[], [], [1], [0, 2], [3], [4], [4], [4, 5, 6], [4, 7], [4], [4], [4, 9, 10], [4, 11], [4, 12], [4, 8, 13], [4, 14]] [] [0, 0, 0, 0, 0, 0, 0, 0, 0, 0, 0, 0, 0, 0, 0, 0] [] (fun i v _ => pfirst30 b3 o3 L qr b2 o2 l.length q m T D c i v) (fun w w' => Keeps w w') (fun _ _ w' => Keeps wr w') (by kernel_rfl) (by kernel_rfl) (by kernel_rfl) (by kernel_rfl) (by kernel_rfl) (by kernel_rfl) (by kernel_rfl) ?_ ?_ ?_ ?_ ?_ ?_ ?_
                    · exact fun i v w w' c h => h
                    · exact fun w => keeps_refl w
                    · exact fun i c vs w _ h => h
                    · refine ⟨?_, ?_, ?_, ?_, ?_, ?_, ?_, ?_, ?_, ?_, ?_, ?_, ?_, ?_, ?_, ?_, trivial⟩
                      · exact fun g b3 h => by (cases h)
                      · exact fun g b3 h => by (cases h)
                      · exact fun g b3 h => by (cases h)
                      · exact fun g b3 h => by (cases h)
                      · exact fun g b3 h => by (cases h)
                      · exact fun g b3 h => by (cases h; exact ⟨by decide, fun v w h => h⟩)
                      · exact fun g b3 h => by (cases h; exact ⟨by decide, fun v w h => h⟩)
                      · exact fun g b3 h => by (cases h; exact ⟨by decide, fun v w h => h⟩)
                      · exact fun g b3 h => by (cases h; exact ⟨by decide, fun v w h => h⟩)
                      · exact fun g b3 h => by (cases h; exact ⟨by decide, fun v w h => h⟩)
                      · exact fun g b3 h => by (cases h; exact ⟨by decide, fun v w h => h⟩)
                      · exact fun g b3 h => by (cases h; exact ⟨by decide, fun v w h => h⟩)
                      · exact fun g b3 h => by (cases h; exact ⟨by decide, fun v w h => h⟩)
                      · exact fun g b3 h => by (cases h; exact ⟨by decide, fun v w h => h⟩)
                      · exact fun g b3 h => by (cases h; exact ⟨by decide, fun v w h => h⟩)
                      · exact fun g b3 h => by (cases h)
                    · exact fun _ _ => keeps_refl wr
                    · refine ⟨?_, ?_, ?_, ?_, ?_, ?_, ?_, ?_, ?_, ?_, ?_, ?_, ?_, ?_, ?_, ?_, trivial⟩
                      · intro _ a w1 vs hI ho hn hu K hK
                        have e13 : a.tmps[13]? = some (.int .i64 (T : Int)) := ho 13 rfl
                        clear hn ho hu
                        go_simp
                        exact hK _ _ (keeps_refl _) hI rfl
                      · intro _ a w1 vs hI ho hn hu K hK
                        have e11 : a.tmps[11]? = some (.slice (some ⟨b3, o3, none⟩) L qr) := ho 11 rfl
                        clear hn ho hu
                        go_simp
                        exact hK _ _ (keeps_refl _) hI rfl
                      · intro _ a w1 vs hI ho hn hu K hK
                        obtain ⟨e128, g128⟩ : a.tmps[128]? = some (vs 1) ∧ vs 1 = .slice (some ⟨b3, o3, none⟩) L qr := hn 1 (by decide)
                        rw [g128] at e128
                        clear g128
                        clear hn ho hu
                        go_simp
                        exact hK _ _ (keeps_refl _) hI rfl
                      · intro _ a w1 vs hI ho hn hu K hK
                        obtain ⟨e127, g127⟩ : a.tmps[127]? = some (vs 0) ∧ vs 0 = .int .i64 (T : Int) := hn 0 (by decide)
                        rw [g127] at e127
                        clear g127
                        obtain ⟨e129, g129⟩ : a.tmps[129]? = some (vs 2) ∧ vs 2 = .int .i64 (L : Int) := hn 2 (by decide)
                        rw [g129] at e129
                        clear g129
                        clear hn ho hu
                        have z1 := HZ1.out
                        have z2 := HZ2.out
                        go_simp
                        exact hK _ _ (keeps_refl _) hI rfl
                      · intro _ a w1 vs hI ho hn hu K hK
                        obtain ⟨e130, g130⟩ : a.tmps[130]? = some (vs 3) ∧ vs 3 = .bool false := hn 3 (by decide)
                        rw [g130] at e130
                        clear g130
                        clear hn ho hu
                        go_simp
                        exact hK _ _ (keeps_refl _) hI rfl
                      · intro _ a w1 vs hI ho hn hu K hK
                        have e11 : a.tmps[11]? = some (.slice (some ⟨b3, o3, none⟩) L qr) := ho 11 rfl
                        clear hn ho hu
                        go_simp
                        exact hK _ _ (keeps_refl _) hI rfl
                      · intro _ a w1 vs hI ho hn hu K hK
                        have e13 : a.tmps[13]? = some (.int .i64 (T : Int)) := ho 13 rfl
                        clear hn ho hu
                        go_simp
                        exact hK _ _ (keeps_refl _) hI rfl
                      · intro _ a w1 vs hI ho hn hu K hK
                        obtain ⟨e132, g132⟩ : a.tmps[132]? = some (vs 5) ∧ vs 5 = .slice (some ⟨b3, o3, none⟩) L qr := hn 5 (by decide)
                        rw [g132] at e132
                        clear g132
                        obtain ⟨e133, g133⟩ : a.tmps[133]? = some (vs 6) ∧ vs 6 = .int .i64 (T : Int) := hn 6 (by decide)
                        rw [g133] at e133
                        clear g133
                        clear hn ho hu
                        go_simp
                        exact hK _ _ (keeps_refl _) hI rfl
                      · intro _ a w1 vs hI ho hn hu K hK
                        obtain ⟨e134, g134⟩ : a.tmps[134]? = some (vs 7) ∧ vs 7 = .pointer (some ⟨b3, o3 + T, none⟩) := hn 7 (by decide)
                        rw [g134] at e134
                        clear g134
                        clear hn ho hu
                        have c0 := keeps_cell hI K0.out
                        go_simp
                        exact hK _ _ (keeps_refl _) hI rfl
                      · intro _ a w1 vs hI ho hn hu K hK
                        have e0 : a.tmps[0]? = some (.slice (some ⟨b2, o2, none⟩) l.length q) := ho 0 rfl
                        clear hn ho hu
                        go_simp
                        exact hK _ _ (keeps_refl _) hI rfl
                      · intro _ a w1 vs hI ho hn hu K hK
                        have e14 : a.tmps[14]? = some (.int .i64 (m : Int)) := ho 14 rfl
                        clear hn ho hu
                        go_simp
                        exact hK _ _ (keeps_refl _) hI rfl
                      · intro _ a w1 vs hI ho hn hu K hK
                        obtain ⟨e136, g136⟩ : a.tmps[136]? = some (vs 9) ∧ vs 9 = .slice (some ⟨b2, o2, none⟩) l.length q := hn 9 (by decide)
                        rw [g136] at e136
                        clear g136
                        obtain ⟨e137, g137⟩ : a.tmps[137]? = some (vs 10) ∧ vs 10 = .int .i64 (m : Int) := hn 10 (by decide)
                        rw [g137] at e137
                        clear g137
                        clear hn ho hu
                        go_simp
                        exact hK _ _ (keeps_refl _) hI rfl
                      · intro _ a w1 vs hI ho hn hu K hK
                        obtain ⟨e138, g138⟩ : a.tmps[138]? = some (vs 11) ∧ vs 11 = .pointer (some ⟨b2, o2 + m, none⟩) := hn 11 (by decide)
                        rw [g138] at e138
                        clear g138
                        clear hn ho hu
                        have c0 := keeps_cell hI J0.out
                        go_simp
                        exact hK _ _ (keeps_refl _) hI rfl
                      · intro _ a w1 vs hI ho hn hu K hK
                        obtain ⟨e139, g139⟩ : a.tmps[139]? = some (vs 12) ∧ vs 12 = .string c := hn 12 (by decide)
                        rw [g139] at e139
                        clear g139
                        clear hn ho hu
                        go_simp
                        refine Calls.mono (HSU.out _) ?_
                        rintro e w' ⟨rfl, hk2⟩
                        go_simp
                        exact hK _ _ hk2 (Keeps.trans hI hk2) rfl
                      · intro _ a w1 vs hI ho hn hu K hK
                        obtain ⟨e135, g135⟩ : a.tmps[135]? = some (vs 8) ∧ vs 8 = .string D := hn 8 (by decide)
                        rw [g135] at e135
                        clear g135
                        obtain ⟨e140, g140⟩ : a.tmps[140]? = some (vs 13) ∧ vs 13 = .string D := hn 13 (by decide)
                        rw [g140] at e140
                        clear g140
                        clear hn ho hu
                        go_simp
                        exact hK _ _ (keeps_refl _) hI rfl
                      · intro _ a w1 vs hI ho hn hu K hK
                        obtain ⟨e131, g131⟩ : a.tmps[131]? = some (vs 4) ∧ vs 4 = .bool false := hn 4 (by decide)
                        rw [g131] at e131
                        clear g131
                        obtain ⟨e141, g141⟩ : a.tmps[141]? = some (vs 14) ∧ vs 14 = .bool false := hn 14 (by decide)
                        rw [g141] at e141
                        clear g141
                        clear hn ho hu
                        go_simp
                        exact hK _ _ (keeps_refl _) hI rfl
                    · intro vs wE hI hG
                      have eL15 : vs 15 = .bool false := hG 15 (by decide)
                      have HKE := Lib.hid hI
                      clear hG hI
                      simp only [setAll, Nat.zero_add, Nat.reduceAdd, List.setIfInBounds_toArray, List.set_cons_zero, List.set_cons_succ, eL15]
                      clear eL15
                      generalize vs 0 = y0 at *
                      generalize vs 1 = y1 at *
                      generalize vs 2 = y2 at *
                      generalize vs 3 = y3 at *
                      generalize vs 4 = y4 at *
                      generalize vs 5 = y5 at *
                      generalize vs 6 = y6 at *
                      generalize vs 7 = y7 at *
                      generalize vs 8 = y8 at *
                      generalize vs 9 = y9 at *
                      generalize vs 10 = y10 at *
                      generalize vs 11 = y11 at *
                      generalize vs 12 = y12 at *
                      generalize vs 13 = y13 at *
                      generalize vs 14 = y14 at *
                      go_wp2_with fail
                      exact ⟨⟨m + 1, by omega, by go_num, by rw [HF1.out], (hK.out.trans hM.out).trans HKE.out⟩, by simp [intOf]; omega⟩
            · obtain rfl : k = l.length := by omega
              rw [HLN.out]
              go_wp2_with fail
              go_ret
              exact ⟨rfl, HKZ.out.trans hK.out⟩
end Go.Proofs.Yteandjophamipaa
