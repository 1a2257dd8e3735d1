/- The walk of what package strongboxlaw16 asks first: awake. -/
import Derived.Test.YteandjophamipaaGBytes
import Derived.Test.YteandjophamipaaStageF
namespace Go.Proofs.Yteandjophamipaa
open Go.RowKit
attribute [local go_sem ↓] Go.wp_at_zero Go.wp_at_succ
theorem manyB_size (n : Nat) (c : UInt8) : (manyB n c).size = n := by unfold manyB; rw [strB_size, List.length_replicate]
theorem manyB_ne {n : Nat} {c d : UInt8} (hn : 0 < n) (h : c ≠ d) : manyB n c ≠ manyB n d := fun e => by
  have h1 := strB_inj e
  cases n with
  | zero => omega
  | succ n => rw [List.replicate_succ, List.replicate_succ] at h1; exact h (List.cons.inj h1).1
theorem hasT_no {l : List ByteArray} {c : ByteArray} (h : c ∉ l) : hasT l c = false := by
  cases e : hasT l c with
  | false => rfl
  | true => exact absurd (hasT_iff.1 e) h
/-- Three unlike chunks, of which two fit. -/
theorem gath3 {x y z : ByteArray} (h1 : y ≠ x) (h2 : z ≠ x) (h3 : z ≠ y) (s1 : x.size + y.size ≤ 4096) (s2 : 4096 < x.size + y.size + z.size) (s0 : x.size ≤ 4096) : gath [x, y, z] = [[x, y], [z]] := by
  have e1 : gst [x, y, z] 1 = ([], [x]) := by
    rw [gst_succ, hasT_no (by simp)]
    show stepG ([], []) x = _
    unfold stepG
    rw [if_neg (by simp [total]; omega)]; rfl
  have e2 : gst [x, y, z] 2 = ([], [x, y]) := by
    rw [gst_succ, e1, hasT_no (by simp [atP]; exact h1)]
    show stepG ([], [x]) y = _
    unfold stepG
    rw [if_neg (by simp [total]; omega)]; rfl
  have e3 : gst [x, y, z] 3 = ([[x, y]], [z]) := by
    rw [gst_succ, e2, hasT_no (by simp [atP]; exact ⟨h2, h3⟩)]
    show stepG ([], [x, y]) z = _
    unfold stepG
    rw [if_pos (by simp [total]; omega)]; rfl
  unfold gath
  show shutG (gst [x, y, z] 3) = _
  rw [e3]; rfl
theorem badG_of {l : List ByteArray} (h : ∀ c ∈ l, 1 ≤ c.size ∧ c.size ≤ 16384) : badG l = false := by
  unfold badG
  rw [List.any_eq_false]
  intro c hc
  have := h c hc
  simp only [Bool.or_eq_true, decide_eq_true_eq, not_or]; omega
def pawake2 (b o q b1 o1 q0 q1 : Nat) (a0 : Option Addr) (B0 B1 D0 Z z : ByteArray) : Nat → Value → Prop
  | i, v => v = ([.int .i64 0, .bool true, .bool true, .slice (some ⟨b, o, none⟩) 2 q, .int .i64 2, .bool true, .bool true, .bool true, .slice (some ⟨b, o, none⟩) 2 q, .pointer (some ⟨b, o, none⟩), .pointer (some ⟨b, o + 2, none⟩), .slice a0 2 q0, .int .i64 2, .bool true, .bool true, .bool true, .slice (some ⟨b, o, none⟩) 2 q, .pointer (some ⟨b, o + 4, none⟩), .pointer (some ⟨b, o + 4 + 2, none⟩), .slice (some ⟨b1, o1, none⟩) 1 q1, .int .i64 1, .bool true, .bool true, .bool true, .slice (some ⟨b, o, none⟩) 2 q, .pointer (some ⟨b, o, none⟩), .pointer (some ⟨b, o + 1, none⟩), .string D0, .slice (some ⟨b, o, none⟩) 2 q, .pointer (some ⟨b, o, none⟩), .pointer (some ⟨b, o, none⟩), .string B0, .string D0, .bool true, .bool true, .bool true, .slice (some ⟨b, o, none⟩) 2 q, .pointer (some ⟨b, o + 4, none⟩), .pointer (some ⟨b, o + 4 + 2, none⟩), .slice (some ⟨b1, o1, none⟩) 1 q1, .pointer (some ⟨b1, o1, none⟩), .string Z, .string z, .string Z, .bool true, .bool true, .bool true, .slice (some ⟨b, o, none⟩) 2 q, .int .i64 ((B0.size : Int) + (B1.size : Int)), .slice (some ⟨b, o, none⟩) 2 q, .pointer (some ⟨b, o, none⟩), .pointer (some ⟨b, o, none⟩), .string B0, .int .i64 (B0.size : Int), .slice (some ⟨b, o, none⟩) 2 q, .pointer (some ⟨b, o + 4, none⟩), .pointer (some ⟨b, o + 4, none⟩), .string B1, .int .i64 (B1.size : Int), .int .i64 ((B0.size : Int) + (B1.size : Int)), .bool true, .bool true, .bool true] : List Value).getD i undef
theorem give_yes {E : TypeId} {f : FuncId} {xs : Array Value} {w : World} {l : List ByteArray} {G : List (List ByteArray)} (h : Calls Try.prog f xs w (GivePacks E w l)) (hb : badG l = false) (hg : gath l = G) :
    Calls Try.prog f xs w fun e w' => ∃ v, e = .returned (.tuple #[v, .int .i64 0]) ∧ RecIn (w.heap.size ≤ ·) E 4 (IsPack (w.heap.size ≤ ·) w'.heap) w'.heap v G ∧ Keeps w w' :=
  h.mono fun e w' ⟨v, h1, h2⟩ => by rw [hb] at h1; obtain ⟨h3, h4⟩ := h1; exact ⟨v, h3, hg ▸ h4, h2⟩
theorem give_no {E : TypeId} {f : FuncId} {xs : Array Value} {w : World} {l : List ByteArray} (h : Calls Try.prog f xs w (GivePacks E w l)) (hb : badG l = true) :
    Calls Try.prog f xs w fun e w' => e = .returned (.tuple #[.slice none 0 0, .int .i64 4]) ∧ Keeps w w' :=
  h.mono fun e w' ⟨v, h1, h2⟩ => by rw [hb] at h1; obtain ⟨rfl, h4⟩ := h1; exact ⟨h4, h2⟩
set_option maxRecDepth 100000 in
set_option maxHeartbeats 4000000 in
theorem pawake_any (w : World) : Calls Try.prog 27 #[] w fun e w' => e = .returned (.bool true) ∧ Keeps w w' := by
  have HTX := Lib.hid (fun wx => ptimes_any 2000 97 wx (by omega))
  have HTY := Lib.hid (fun wx => ptimes_any 2000 98 wx (by omega))
  have HTZ := Lib.hid (fun wx => ptimes_any 2000 99 wx (by omega))
  have HGA : Hid (gath [manyB 2000 97, manyB 2000 98, manyB 2000 99] = [[manyB 2000 97, manyB 2000 98], [manyB 2000 99]]) :=
    gath3 (manyB_ne (by omega) (by decide)) (manyB_ne (by omega) (by decide)) (manyB_ne (by omega) (by decide)) (by rw [manyB_size, manyB_size]; omega) (by rw [manyB_size, manyB_size, manyB_size]; omega) (by rw [manyB_size]; omega)
  have HBA : Hid (badG [manyB 2000 97, manyB 2000 98, manyB 2000 99] = false) := badG_of fun c hc => by
    simp at hc; rcases hc with rfl | rfl | rfl <;> rw [manyB_size] <;> omega
  have sx := manyB_size 2000 97
  have sy := manyB_size 2000 98
  have sz := manyB_size 2000 99
  generalize manyB 2000 97 = x at *
  generalize manyB 2000 98 = y at *
  generalize manyB 2000 99 = z at *
  have HSX : Hid (total [x, y, z] ≤ 1000000) := by show _ ≤ _; simp [total]; omega
  have HBG : Hid (bytesG [[x, y], [z]] = (strB (blobP [x, y])).size + (strB (blobP [z])).size) := by show _ = _; unfold bytesG; rw [strB_size, strB_size]; simp
  have HB0 : Hid ((strB (blobP [x, y])).size ≤ 10000) := by show _ ≤ _; rw [strB_size, blobP_length]; simp [total]; omega
  have HB1 : Hid ((strB (blobP [z])).size ≤ 10000) := by show _ ≤ _; rw [strB_size, blobP_length]; simp [total]; omega
  have HSUZ := Lib.hid (fun wx => dsum_any z wx (by omega))
  have HSU0 := Lib.hid (fun wx => dsum_any (strB (blobP [x, y])) wx (by have := HB0.out; omega))
  clear sx sy sz
  go_enter Try.func27, Try.ntmps27
  go_wp2_with fail
  refine Calls.mono (HTX.out _) ?_
  rintro e w1 ⟨rfl, hk1⟩
  go_wp2_with fail
  refine Calls.mono (HTY.out _) ?_
  rintro e w2 ⟨rfl, hk2⟩
  go_wp2_with fail
  refine Calls.mono (HTZ.out _) ?_
  rintro e w3 ⟨rfl, hk3⟩
  have HK3 := Lib.hid ((hk1.trans hk2).trans hk3)
  clear hk1 hk2 hk3
  go_wp2_with fail
  refine Calls.mono (give_yes (gather_any _ [x, y, z] _ (textsAt_lit w3 [x, y, z] 3 3 rfl (by omega)) (by simp) HSX.out) HBA.out HGA.out) ?_
  rintro e w5 ⟨v, rfl, hr, hk⟩
  have HK5 := Lib.hid ((HK3.out.trans (kal _ _)).trans hk)
  have HR : Hid (RecAt 4 PackT w5.heap v [[x, y], [z]]) := hr.at_.imp (fun _ _ _ e => e) fun _ _ _ k => k.t
  obtain ⟨b, o, q, us0, rfl, hu0, hc0, hp0⟩ := rec_cell hr.at_ (i := 0) (by simp)
  obtain ⟨us1, hu1, hc1, hp1⟩ := rec_at hr.at_ (i := 1) (by simp)
  obtain ⟨c0, p0, rfl, ht0, _⟩ := hp0
  obtain ⟨c1, p1, rfl, ht1, _⟩ := hp1
  simp only [List.getElem_cons_zero, List.getElem_cons_succ] at ht0 ht1 hc0 hc1
  obtain ⟨a0, q0, rfl⟩ := seq_shape (SeqIn.at_ ht0)
  obtain ⟨b1, o1, q1, u1, rfl, k1, r1⟩ := seq_cell (SeqIn.at_ ht1) (i := 0) (by simp)
  unfold IsText at r1
  subst r1
  simp only [List.map_cons, List.map_nil, List.length_cons, List.length_nil, Nat.zero_add, Nat.reduceAdd, List.getElem_cons_zero, Nat.add_zero] at hc0 hc1 k1
  have d00 := hc0 0 (by simp)
  have d01 := hc0 1 (by simp)
  have d02 := hc0 2 (by simp)
  have d10 := hc1 0 (by simp)
  have d12 := hc1 2 (by simp)
  simp only [List.getElem_cons_zero, List.getElem_cons_succ, Nat.zero_mul, Nat.one_mul, Nat.add_zero] at d00 d01 d02 d10 d12
  have K00 := Lib.hid d00
  have K01 := Lib.hid d01
  have K02 := Lib.hid d02
  have K10 := Lib.hid d10
  have K12 := Lib.hid d12
  have KZ := Lib.hid k1
  have hdg : dgP [x, y] = dgT (strB (blobP [x, y])) := rfl
  rw [hdg] at K01
  have HPB : Hid (∀ wx, Keeps w5 wx → Calls Try.prog 30 #[.slice (some ⟨b, o, none⟩) 2 q] wx fun e w' => e = .returned (.int .i64 (((strB (blobP [x, y])).size : Int) + ((strB (blobP [z])).size : Int))) ∧ Keeps wx w') := fun wx hx => by
    have h1 := HB0.out
    have h2 := HB1.out
    have := pbytes_any _ [[x, y], [z]] wx (RecAt.keeps HR.out hx) (by rw [HBG.out]; omega)
    rw [HBG.out] at this
    simpa using this
  clear hr hk hu0 hu1 hc0 hc1 ht0 ht1 d00 d01 d02 d10 d12 k1 hdg
  have HWS : Hid (IntKind.i64.wrap (((strB (blobP [x, y])).size : Int) + ((strB (blobP [z])).size : Int)) = ((strB (blobP [x, y])).size : Int) + ((strB (blobP [z])).size : Int)) := IntWalk.i64_in _ (by have := HB0.out; have := HB1.out; omega)
  generalize strB (blobP [x, y]) = B0 at *
  generalize strB (blobP [z]) = B1 at *
  generalize dgT B0 = D0 at *
  generalize dgT z = Z at *
  go_wp2_with fail
  refine wp_region_stage [11, 12, 13, 14, 15, 16, 17, 18, 19, 20, 21, 22, 23, 24, 25, 26, 27, 28, 29, 30, 31, 32, 33, 34, 35, 36, 37, 38, 39, 40, 41, 42, 43, 44, 45, 46, 47, 48, 49, 50, 51, 52, 53, 54, 55, 56, 57, 58, 59, 60, 61, 62, 63, 64, 65, 66, 67, 68, 69, 70, 71, 72, 0] [[], [0], [1], [2], [2, 3], [2, 4], [2, 5], [6], [7], [7, 8], [7, 9], [7, 10], [7, 11], [7, 12], [7, 13], [14], [15], [15, 16], [15, 17], [15, 18], [15, 19], [15, 20], [15, 21], [22], [23], [23, 24], [23, 25], [23, 26], [23], [23, 28], [23, 29], [23, 30], [23, 31], [23, 27, 32], [23, 33], [34], [35], [35, 36], [35, 37], [35, 38], [35, 39], [35, 40], [35], [35, 42], [35, 41, 43], [35, 44], [45], [46], [46, 47], [46], [46, 49], [46, 50], [46, 51], [46, 52], [46], [46, 54], [46, 55], [46, 56], [46, 57], [46, 53, 58], [46, 48, 59], [46, 60], [61]] [] [0, 0, 0, 0, 0, 0, 0, 0, 0, 0, 0, 0, 0, 0, 0, 0, 0, 0, 0, 0, 0, 0, 0, 0, 0, 0, 0, 0, 0, 0, 0, 0, 0, 0, 0, 0, 0, 0, 0, 0, 0, 0, 0, 0, 0, 0, 0, 0, 0, 0, 0, 0, 0, 0, 0, 0, 0, 0, 0, 0, 0, 0, 0] [] (fun i v _ => pawake2 b o q b1 o1 q0 q1 a0 B0 B1 D0 Z z i v) (fun w w' => Keeps w w') (fun _ _ w' => Keeps w5 w') (by kernel_rfl) (by kernel_rfl) (by kernel_rfl) (by kernel_rfl) (by kernel_rfl) (by kernel_rfl) (by kernel_rfl) ?_ ?_ ?_ ?_ ?_ ?_ ?_
  · exact fun i v w w' c h => h
  · exact fun w => keeps_refl w
  · exact fun i s vs w _ h => h
  · refine ⟨?_, ?_, ?_, ?_, ?_, ?_, ?_, ?_, ?_, ?_, ?_, ?_, ?_, ?_, ?_, ?_, ?_, ?_, ?_, ?_, ?_, ?_, ?_, ?_, ?_, ?_, ?_, ?_, ?_, ?_, ?_, ?_, ?_, ?_, ?_, ?_, ?_, ?_, ?_, ?_, ?_, ?_, ?_, ?_, ?_, ?_, ?_, ?_, ?_, ?_, ?_, ?_, ?_, ?_, ?_, ?_, ?_, ?_, ?_, ?_, ?_, ?_, ?_, trivial⟩
    · exact fun g b h => by (cases h)
    · exact fun g b h => by (cases h)
    · exact fun g b h => by (cases h)
    · exact fun g b h => by (cases h; exact ⟨by decide, fun v w h => h⟩)
    · exact fun g b h => by (cases h; exact ⟨by decide, fun v w h => h⟩)
    · exact fun g b h => by (cases h; exact ⟨by decide, fun v w h => h⟩)
    · exact fun g b h => by (cases h)
    · exact fun g b h => by (cases h)
    · exact fun g b h => by (cases h; exact ⟨by decide, fun v w h => h⟩)
    · exact fun g b h => by (cases h; exact ⟨by decide, fun v w h => h⟩)
    · exact fun g b h => by (cases h; exact ⟨by decide, fun v w h => h⟩)
    · exact fun g b h => by (cases h; exact ⟨by decide, fun v w h => h⟩)
    · exact fun g b h => by (cases h; exact ⟨by decide, fun v w h => h⟩)
    · exact fun g b h => by (cases h; exact ⟨by decide, fun v w h => h⟩)
    · exact fun g b h => by (cases h)
    · exact fun g b h => by (cases h)
    · exact fun g b h => by (cases h; exact ⟨by decide, fun v w h => h⟩)
    · exact fun g b h => by (cases h; exact ⟨by decide, fun v w h => h⟩)
    · exact fun g b h => by (cases h; exact ⟨by decide, fun v w h => h⟩)
    · exact fun g b h => by (cases h; exact ⟨by decide, fun v w h => h⟩)
    · exact fun g b h => by (cases h; exact ⟨by decide, fun v w h => h⟩)
    · exact fun g b h => by (cases h; exact ⟨by decide, fun v w h => h⟩)
    · exact fun g b h => by (cases h)
    · exact fun g b h => by (cases h)
    · exact fun g b h => by (cases h; exact ⟨by decide, fun v w h => h⟩)
    · exact fun g b h => by (cases h; exact ⟨by decide, fun v w h => h⟩)
    · exact fun g b h => by (cases h; exact ⟨by decide, fun v w h => h⟩)
    · exact fun g b h => by (cases h; exact ⟨by decide, fun v w h => h⟩)
    · exact fun g b h => by (cases h; exact ⟨by decide, fun v w h => h⟩)
    · exact fun g b h => by (cases h; exact ⟨by decide, fun v w h => h⟩)
    · exact fun g b h => by (cases h; exact ⟨by decide, fun v w h => h⟩)
    · exact fun g b h => by (cases h; exact ⟨by decide, fun v w h => h⟩)
    · exact fun g b h => by (cases h; exact ⟨by decide, fun v w h => h⟩)
    · exact fun g b h => by (cases h; exact ⟨by decide, fun v w h => h⟩)
    · exact fun g b h => by (cases h)
    · exact fun g b h => by (cases h)
    · exact fun g b h => by (cases h; exact ⟨by decide, fun v w h => h⟩)
    · exact fun g b h => by (cases h; exact ⟨by decide, fun v w h => h⟩)
    · exact fun g b h => by (cases h; exact ⟨by decide, fun v w h => h⟩)
    · exact fun g b h => by (cases h; exact ⟨by decide, fun v w h => h⟩)
    · exact fun g b h => by (cases h; exact ⟨by decide, fun v w h => h⟩)
    · exact fun g b h => by (cases h; exact ⟨by decide, fun v w h => h⟩)
    · exact fun g b h => by (cases h; exact ⟨by decide, fun v w h => h⟩)
    · exact fun g b h => by (cases h; exact ⟨by decide, fun v w h => h⟩)
    · exact fun g b h => by (cases h; exact ⟨by decide, fun v w h => h⟩)
    · exact fun g b h => by (cases h)
    · exact fun g b h => by (cases h)
    · exact fun g b h => by (cases h; exact ⟨by decide, fun v w h => h⟩)
    · exact fun g b h => by (cases h; exact ⟨by decide, fun v w h => h⟩)
    · exact fun g b h => by (cases h; exact ⟨by decide, fun v w h => h⟩)
    · exact fun g b h => by (cases h; exact ⟨by decide, fun v w h => h⟩)
    · exact fun g b h => by (cases h; exact ⟨by decide, fun v w h => h⟩)
    · exact fun g b h => by (cases h; exact ⟨by decide, fun v w h => h⟩)
    · exact fun g b h => by (cases h; exact ⟨by decide, fun v w h => h⟩)
    · exact fun g b h => by (cases h; exact ⟨by decide, fun v w h => h⟩)
    · exact fun g b h => by (cases h; exact ⟨by decide, fun v w h => h⟩)
    · exact fun g b h => by (cases h; exact ⟨by decide, fun v w h => h⟩)
    · exact fun g b h => by (cases h; exact ⟨by decide, fun v w h => h⟩)
    · exact fun g b h => by (cases h; exact ⟨by decide, fun v w h => h⟩)
    · exact fun g b h => by (cases h; exact ⟨by decide, fun v w h => h⟩)
    · exact fun g b h => by (cases h; exact ⟨by decide, fun v w h => h⟩)
    · exact fun g b h => by (cases h)
    · exact fun g b h => by (cases h)
  · exact fun _ _ => keeps_refl w5
  · refine ⟨?_, ?_, ?_, ?_, ?_, ?_, ?_, ?_, ?_, ?_, ?_, ?_, ?_, ?_, ?_, ?_, ?_, ?_, ?_, ?_, ?_, ?_, ?_, ?_, ?_, ?_, ?_, ?_, ?_, ?_, ?_, ?_, ?_, ?_, ?_, ?_, ?_, ?_, ?_, ?_, ?_, ?_, ?_, ?_, ?_, ?_, ?_, ?_, ?_, ?_, ?_, ?_, ?_, ?_, ?_, ?_, ?_, ?_, ?_, ?_, ?_, ?_, ?_, trivial⟩
    · intro _ a w1 vs hI ho hn hu K hK
      have e2 : a.tmps[2]? = some (.int .i64 0) := ho 2 rfl
      clear hn ho hu
      go_simp
      exact hK _ _ (keeps_refl _) hI rfl
    · intro _ a w1 vs hI ho hn hu K hK
      obtain ⟨e11, g11⟩ : a.tmps[11]? = some (vs 0) ∧ vs 0 = .int .i64 0 := hn 0 (by decide)
      rw [g11] at e11
      clear g11
      clear hn ho hu
      go_simp
      exact hK _ _ (keeps_refl _) hI rfl
    · intro _ a w1 vs hI ho hn hu K hK
      obtain ⟨e12, g12⟩ : a.tmps[12]? = some (vs 1) ∧ vs 1 = .bool true := hn 1 (by decide)
      rw [g12] at e12
      clear g12
      clear hn ho hu
      go_simp
      exact hK _ _ (keeps_refl _) hI rfl
    · intro _ a w1 vs hI ho hn hu K hK
      have e1 : a.tmps[1]? = some (.slice (some ⟨b, o, none⟩) 2 q) := ho 1 rfl
      clear hn ho hu
      go_simp
      exact hK _ _ (keeps_refl _) hI rfl
    · intro _ a w1 vs hI ho hn hu K hK
      obtain ⟨e14, g14⟩ : a.tmps[14]? = some (vs 3) ∧ vs 3 = .slice (some ⟨b, o, none⟩) 2 q := hn 3 (by decide)
      rw [g14] at e14
      clear g14
      clear hn ho hu
      go_simp
      exact hK _ _ (keeps_refl _) hI rfl
    · intro _ a w1 vs hI ho hn hu K hK
      obtain ⟨e15, g15⟩ : a.tmps[15]? = some (vs 4) ∧ vs 4 = .int .i64 2 := hn 4 (by decide)
      rw [g15] at e15
      clear g15
      clear hn ho hu
      go_simp
      exact hK _ _ (keeps_refl _) hI rfl
    · intro _ a w1 vs hI ho hn hu K hK
      obtain ⟨e13, g13⟩ : a.tmps[13]? = some (vs 2) ∧ vs 2 = .bool true := hn 2 (by decide)
      rw [g13] at e13
      clear g13
      obtain ⟨e16, g16⟩ : a.tmps[16]? = some (vs 5) ∧ vs 5 = .bool true := hn 5 (by decide)
      rw [g16] at e16
      clear g16
      clear hn ho hu
      go_simp
      exact hK _ _ (keeps_refl _) hI rfl
    · intro _ a w1 vs hI ho hn hu K hK
      obtain ⟨e17, g17⟩ : a.tmps[17]? = some (vs 6) ∧ vs 6 = .bool true := hn 6 (by decide)
      rw [g17] at e17
      clear g17
      clear hn ho hu
      go_simp
      exact hK _ _ (keeps_refl _) hI rfl
    · intro _ a w1 vs hI ho hn hu K hK
      have e1 : a.tmps[1]? = some (.slice (some ⟨b, o, none⟩) 2 q) := ho 1 rfl
      clear hn ho hu
      go_simp
      exact hK _ _ (keeps_refl _) hI rfl
    · intro _ a w1 vs hI ho hn hu K hK
      obtain ⟨e19, g19⟩ : a.tmps[19]? = some (vs 8) ∧ vs 8 = .slice (some ⟨b, o, none⟩) 2 q := hn 8 (by decide)
      rw [g19] at e19
      clear g19
      clear hn ho hu
      go_simp
      exact hK _ _ (keeps_refl _) hI rfl
    · intro _ a w1 vs hI ho hn hu K hK
      obtain ⟨e20, g20⟩ : a.tmps[20]? = some (vs 9) ∧ vs 9 = .pointer (some ⟨b, o, none⟩) := hn 9 (by decide)
      rw [g20] at e20
      clear g20
      clear hn ho hu
      go_simp
      exact hK _ _ (keeps_refl _) hI rfl
    · intro _ a w1 vs hI ho hn hu K hK
      obtain ⟨e21, g21⟩ : a.tmps[21]? = some (vs 10) ∧ vs 10 = .pointer (some ⟨b, o + 2, none⟩) := hn 10 (by decide)
      rw [g21] at e21
      clear g21
      clear hn ho hu
      have c0 := keeps_cell hI K02.out
      go_simp
      exact hK _ _ (keeps_refl _) hI rfl
    · intro _ a w1 vs hI ho hn hu K hK
      obtain ⟨e22, g22⟩ : a.tmps[22]? = some (vs 11) ∧ vs 11 = .slice a0 2 q0 := hn 11 (by decide)
      rw [g22] at e22
      clear g22
      clear hn ho hu
      go_simp
      exact hK _ _ (keeps_refl _) hI rfl
    · intro _ a w1 vs hI ho hn hu K hK
      obtain ⟨e23, g23⟩ : a.tmps[23]? = some (vs 12) ∧ vs 12 = .int .i64 2 := hn 12 (by decide)
      rw [g23] at e23
      clear g23
      clear hn ho hu
      go_simp
      exact hK _ _ (keeps_refl _) hI rfl
    · intro _ a w1 vs hI ho hn hu K hK
      obtain ⟨e18, g18⟩ : a.tmps[18]? = some (vs 7) ∧ vs 7 = .bool true := hn 7 (by decide)
      rw [g18] at e18
      clear g18
      obtain ⟨e24, g24⟩ : a.tmps[24]? = some (vs 13) ∧ vs 13 = .bool true := hn 13 (by decide)
      rw [g24] at e24
      clear g24
      clear hn ho hu
      go_simp
      exact hK _ _ (keeps_refl _) hI rfl
    · intro _ a w1 vs hI ho hn hu K hK
      obtain ⟨e25, g25⟩ : a.tmps[25]? = some (vs 14) ∧ vs 14 = .bool true := hn 14 (by decide)
      rw [g25] at e25
      clear g25
      clear hn ho hu
      go_simp
      exact hK _ _ (keeps_refl _) hI rfl
    · intro _ a w1 vs hI ho hn hu K hK
      have e1 : a.tmps[1]? = some (.slice (some ⟨b, o, none⟩) 2 q) := ho 1 rfl
      clear hn ho hu
      go_simp
      exact hK _ _ (keeps_refl _) hI rfl
    · intro _ a w1 vs hI ho hn hu K hK
      obtain ⟨e27, g27⟩ : a.tmps[27]? = some (vs 16) ∧ vs 16 = .slice (some ⟨b, o, none⟩) 2 q := hn 16 (by decide)
      rw [g27] at e27
      clear g27
      clear hn ho hu
      go_simp
      exact hK _ _ (keeps_refl _) hI rfl
    · intro _ a w1 vs hI ho hn hu K hK
      obtain ⟨e28, g28⟩ : a.tmps[28]? = some (vs 17) ∧ vs 17 = .pointer (some ⟨b, o + 4, none⟩) := hn 17 (by decide)
      rw [g28] at e28
      clear g28
      clear hn ho hu
      go_simp
      exact hK _ _ (keeps_refl _) hI rfl
    · intro _ a w1 vs hI ho hn hu K hK
      obtain ⟨e29, g29⟩ : a.tmps[29]? = some (vs 18) ∧ vs 18 = .pointer (some ⟨b, o + 4 + 2, none⟩) := hn 18 (by decide)
      rw [g29] at e29
      clear g29
      clear hn ho hu
      have c0 := keeps_cell hI K12.out
      go_simp
      exact hK _ _ (keeps_refl _) hI rfl
    · intro _ a w1 vs hI ho hn hu K hK
      obtain ⟨e30, g30⟩ : a.tmps[30]? = some (vs 19) ∧ vs 19 = .slice (some ⟨b1, o1, none⟩) 1 q1 := hn 19 (by decide)
      rw [g30] at e30
      clear g30
      clear hn ho hu
      go_simp
      exact hK _ _ (keeps_refl _) hI rfl
    · intro _ a w1 vs hI ho hn hu K hK
      obtain ⟨e31, g31⟩ : a.tmps[31]? = some (vs 20) ∧ vs 20 = .int .i64 1 := hn 20 (by decide)
      rw [g31] at e31
      clear g31
      clear hn ho hu
      go_simp
      exact hK _ _ (keeps_refl _) hI rfl
    · intro _ a w1 vs hI ho hn hu K hK
      obtain ⟨e26, g26⟩ : a.tmps[26]? = some (vs 15) ∧ vs 15 = .bool true := hn 15 (by decide)
      rw [g26] at e26
      clear g26
      obtain ⟨e32, g32⟩ : a.tmps[32]? = some (vs 21) ∧ vs 21 = .bool true := hn 21 (by decide)
      rw [g32] at e32
      clear g32
      clear hn ho hu
      go_simp
      exact hK _ _ (keeps_refl _) hI rfl
    · intro _ a w1 vs hI ho hn hu K hK
      obtain ⟨e33, g33⟩ : a.tmps[33]? = some (vs 22) ∧ vs 22 = .bool true := hn 22 (by decide)
      rw [g33] at e33
      clear g33
      clear hn ho hu
      go_simp
      exact hK _ _ (keeps_refl _) hI rfl
    · intro _ a w1 vs hI ho hn hu K hK
      have e1 : a.tmps[1]? = some (.slice (some ⟨b, o, none⟩) 2 q) := ho 1 rfl
      clear hn ho hu
      go_simp
      exact hK _ _ (keeps_refl _) hI rfl
    · intro _ a w1 vs hI ho hn hu K hK
      obtain ⟨e35, g35⟩ : a.tmps[35]? = some (vs 24) ∧ vs 24 = .slice (some ⟨b, o, none⟩) 2 q := hn 24 (by decide)
      rw [g35] at e35
      clear g35
      clear hn ho hu
      go_simp
      exact hK _ _ (keeps_refl _) hI rfl
    · intro _ a w1 vs hI ho hn hu K hK
      obtain ⟨e36, g36⟩ : a.tmps[36]? = some (vs 25) ∧ vs 25 = .pointer (some ⟨b, o, none⟩) := hn 25 (by decide)
      rw [g36] at e36
      clear g36
      clear hn ho hu
      go_simp
      exact hK _ _ (keeps_refl _) hI rfl
    · intro _ a w1 vs hI ho hn hu K hK
      obtain ⟨e37, g37⟩ : a.tmps[37]? = some (vs 26) ∧ vs 26 = .pointer (some ⟨b, o + 1, none⟩) := hn 26 (by decide)
      rw [g37] at e37
      clear g37
      clear hn ho hu
      have c0 := keeps_cell hI K01.out
      go_simp
      exact hK _ _ (keeps_refl _) hI rfl
    · intro _ a w1 vs hI ho hn hu K hK
      have e1 : a.tmps[1]? = some (.slice (some ⟨b, o, none⟩) 2 q) := ho 1 rfl
      clear hn ho hu
      go_simp
      exact hK _ _ (keeps_refl _) hI rfl
    · intro _ a w1 vs hI ho hn hu K hK
      obtain ⟨e39, g39⟩ : a.tmps[39]? = some (vs 28) ∧ vs 28 = .slice (some ⟨b, o, none⟩) 2 q := hn 28 (by decide)
      rw [g39] at e39
      clear g39
      clear hn ho hu
      go_simp
      exact hK _ _ (keeps_refl _) hI rfl
    · intro _ a w1 vs hI ho hn hu K hK
      obtain ⟨e40, g40⟩ : a.tmps[40]? = some (vs 29) ∧ vs 29 = .pointer (some ⟨b, o, none⟩) := hn 29 (by decide)
      rw [g40] at e40
      clear g40
      clear hn ho hu
      go_simp
      exact hK _ _ (keeps_refl _) hI rfl
    · intro _ a w1 vs hI ho hn hu K hK
      obtain ⟨e41, g41⟩ : a.tmps[41]? = some (vs 30) ∧ vs 30 = .pointer (some ⟨b, o, none⟩) := hn 30 (by decide)
      rw [g41] at e41
      clear g41
      clear hn ho hu
      have c0 := keeps_cell hI K00.out
      go_simp
      exact hK _ _ (keeps_refl _) hI rfl
    · intro _ a w1 vs hI ho hn hu K hK
      obtain ⟨e42, g42⟩ : a.tmps[42]? = some (vs 31) ∧ vs 31 = .string B0 := hn 31 (by decide)
      rw [g42] at e42
      clear g42
      clear hn ho hu
      go_simp
      refine Calls.mono (HSU0.out _) ?_
      rintro e w' ⟨rfl, hk2⟩
      go_simp
      exact hK _ _ hk2 (Keeps.trans hI hk2) rfl
    · intro _ a w1 vs hI ho hn hu K hK
      obtain ⟨e38, g38⟩ : a.tmps[38]? = some (vs 27) ∧ vs 27 = .string D0 := hn 27 (by decide)
      rw [g38] at e38
      clear g38
      obtain ⟨e43, g43⟩ : a.tmps[43]? = some (vs 32) ∧ vs 32 = .string D0 := hn 32 (by decide)
      rw [g43] at e43
      clear g43
      clear hn ho hu
      go_simp
      exact hK _ _ (keeps_refl _) hI rfl
    · intro _ a w1 vs hI ho hn hu K hK
      obtain ⟨e34, g34⟩ : a.tmps[34]? = some (vs 23) ∧ vs 23 = .bool true := hn 23 (by decide)
      rw [g34] at e34
      clear g34
      obtain ⟨e44, g44⟩ : a.tmps[44]? = some (vs 33) ∧ vs 33 = .bool true := hn 33 (by decide)
      rw [g44] at e44
      clear g44
      clear hn ho hu
      go_simp
      exact hK _ _ (keeps_refl _) hI rfl
    · intro _ a w1 vs hI ho hn hu K hK
      obtain ⟨e45, g45⟩ : a.tmps[45]? = some (vs 34) ∧ vs 34 = .bool true := hn 34 (by decide)
      rw [g45] at e45
      clear g45
      clear hn ho hu
      go_simp
      exact hK _ _ (keeps_refl _) hI rfl
    · intro _ a w1 vs hI ho hn hu K hK
      have e1 : a.tmps[1]? = some (.slice (some ⟨b, o, none⟩) 2 q) := ho 1 rfl
      clear hn ho hu
      go_simp
      exact hK _ _ (keeps_refl _) hI rfl
    · intro _ a w1 vs hI ho hn hu K hK
      obtain ⟨e47, g47⟩ : a.tmps[47]? = some (vs 36) ∧ vs 36 = .slice (some ⟨b, o, none⟩) 2 q := hn 36 (by decide)
      rw [g47] at e47
      clear g47
      clear hn ho hu
      go_simp
      exact hK _ _ (keeps_refl _) hI rfl
    · intro _ a w1 vs hI ho hn hu K hK
      obtain ⟨e48, g48⟩ : a.tmps[48]? = some (vs 37) ∧ vs 37 = .pointer (some ⟨b, o + 4, none⟩) := hn 37 (by decide)
      rw [g48] at e48
      clear g48
      clear hn ho hu
      go_simp
      exact hK _ _ (keeps_refl _) hI rfl
    · intro _ a w1 vs hI ho hn hu K hK
      obtain ⟨e49, g49⟩ : a.tmps[49]? = some (vs 38) ∧ vs 38 = .pointer (some ⟨b, o + 4 + 2, none⟩) := hn 38 (by decide)
      rw [g49] at e49
      clear g49
      clear hn ho hu
      have c0 := keeps_cell hI K12.out
      go_simp
      exact hK _ _ (keeps_refl _) hI rfl
    · intro _ a w1 vs hI ho hn hu K hK
      obtain ⟨e50, g50⟩ : a.tmps[50]? = some (vs 39) ∧ vs 39 = .slice (some ⟨b1, o1, none⟩) 1 q1 := hn 39 (by decide)
      rw [g50] at e50
      clear g50
      clear hn ho hu
      go_simp
      exact hK _ _ (keeps_refl _) hI rfl
    · intro _ a w1 vs hI ho hn hu K hK
      obtain ⟨e51, g51⟩ : a.tmps[51]? = some (vs 40) ∧ vs 40 = .pointer (some ⟨b1, o1, none⟩) := hn 40 (by decide)
      rw [g51] at e51
      clear g51
      clear hn ho hu
      have c0 := keeps_cell hI KZ.out
      go_simp
      exact hK _ _ (keeps_refl _) hI rfl
    · intro _ a w1 vs hI ho hn hu K hK
      clear hn ho hu
      go_simp
      refine Calls.mono (HTZ.out _) ?_
      rintro e w' ⟨rfl, hk2⟩
      go_simp
      exact hK _ _ hk2 (Keeps.trans hI hk2) rfl
    · intro _ a w1 vs hI ho hn hu K hK
      obtain ⟨e53, g53⟩ : a.tmps[53]? = some (vs 42) ∧ vs 42 = .string z := hn 42 (by decide)
      rw [g53] at e53
      clear g53
      clear hn ho hu
      go_simp
      refine Calls.mono (HSUZ.out _) ?_
      rintro e w' ⟨rfl, hk2⟩
      go_simp
      exact hK _ _ hk2 (Keeps.trans hI hk2) rfl
    · intro _ a w1 vs hI ho hn hu K hK
      obtain ⟨e52, g52⟩ : a.tmps[52]? = some (vs 41) ∧ vs 41 = .string Z := hn 41 (by decide)
      rw [g52] at e52
      clear g52
      obtain ⟨e54, g54⟩ : a.tmps[54]? = some (vs 43) ∧ vs 43 = .string Z := hn 43 (by decide)
      rw [g54] at e54
      clear g54
      clear hn ho hu
      go_simp
      exact hK _ _ (keeps_refl _) hI rfl
    · intro _ a w1 vs hI ho hn hu K hK
      obtain ⟨e46, g46⟩ : a.tmps[46]? = some (vs 35) ∧ vs 35 = .bool true := hn 35 (by decide)
      rw [g46] at e46
      clear g46
      obtain ⟨e55, g55⟩ : a.tmps[55]? = some (vs 44) ∧ vs 44 = .bool true := hn 44 (by decide)
      rw [g55] at e55
      clear g55
      clear hn ho hu
      go_simp
      exact hK _ _ (keeps_refl _) hI rfl
    · intro _ a w1 vs hI ho hn hu K hK
      obtain ⟨e56, g56⟩ : a.tmps[56]? = some (vs 45) ∧ vs 45 = .bool true := hn 45 (by decide)
      rw [g56] at e56
      clear g56
      clear hn ho hu
      go_simp
      exact hK _ _ (keeps_refl _) hI rfl
    · intro _ a w1 vs hI ho hn hu K hK
      have e1 : a.tmps[1]? = some (.slice (some ⟨b, o, none⟩) 2 q) := ho 1 rfl
      clear hn ho hu
      go_simp
      exact hK _ _ (keeps_refl _) hI rfl
    · intro _ a w1 vs hI ho hn hu K hK
      obtain ⟨e58, g58⟩ : a.tmps[58]? = some (vs 47) ∧ vs 47 = .slice (some ⟨b, o, none⟩) 2 q := hn 47 (by decide)
      rw [g58] at e58
      clear g58
      clear hn ho hu
      go_simp
      refine Calls.mono (HPB.out _ hI) ?_
      rintro e w' ⟨rfl, hk2⟩
      go_simp
      exact hK _ _ hk2 (Keeps.trans hI hk2) rfl
    · intro _ a w1 vs hI ho hn hu K hK
      have e1 : a.tmps[1]? = some (.slice (some ⟨b, o, none⟩) 2 q) := ho 1 rfl
      clear hn ho hu
      go_simp
      exact hK _ _ (keeps_refl _) hI rfl
    · intro _ a w1 vs hI ho hn hu K hK
      obtain ⟨e60, g60⟩ : a.tmps[60]? = some (vs 49) ∧ vs 49 = .slice (some ⟨b, o, none⟩) 2 q := hn 49 (by decide)
      rw [g60] at e60
      clear g60
      clear hn ho hu
      go_simp
      exact hK _ _ (keeps_refl _) hI rfl
    · intro _ a w1 vs hI ho hn hu K hK
      obtain ⟨e61, g61⟩ : a.tmps[61]? = some (vs 50) ∧ vs 50 = .pointer (some ⟨b, o, none⟩) := hn 50 (by decide)
      rw [g61] at e61
      clear g61
      clear hn ho hu
      go_simp
      exact hK _ _ (keeps_refl _) hI rfl
    · intro _ a w1 vs hI ho hn hu K hK
      obtain ⟨e62, g62⟩ : a.tmps[62]? = some (vs 51) ∧ vs 51 = .pointer (some ⟨b, o, none⟩) := hn 51 (by decide)
      rw [g62] at e62
      clear g62
      clear hn ho hu
      have c0 := keeps_cell hI K00.out
      go_simp
      exact hK _ _ (keeps_refl _) hI rfl
    · intro _ a w1 vs hI ho hn hu K hK
      obtain ⟨e63, g63⟩ : a.tmps[63]? = some (vs 52) ∧ vs 52 = .string B0 := hn 52 (by decide)
      rw [g63] at e63
      clear g63
      clear hn ho hu
      go_simp
      exact hK _ _ (keeps_refl _) hI rfl
    · intro _ a w1 vs hI ho hn hu K hK
      have e1 : a.tmps[1]? = some (.slice (some ⟨b, o, none⟩) 2 q) := ho 1 rfl
      clear hn ho hu
      go_simp
      exact hK _ _ (keeps_refl _) hI rfl
    · intro _ a w1 vs hI ho hn hu K hK
      obtain ⟨e65, g65⟩ : a.tmps[65]? = some (vs 54) ∧ vs 54 = .slice (some ⟨b, o, none⟩) 2 q := hn 54 (by decide)
      rw [g65] at e65
      clear g65
      clear hn ho hu
      go_simp
      exact hK _ _ (keeps_refl _) hI rfl
    · intro _ a w1 vs hI ho hn hu K hK
      obtain ⟨e66, g66⟩ : a.tmps[66]? = some (vs 55) ∧ vs 55 = .pointer (some ⟨b, o + 4, none⟩) := hn 55 (by decide)
      rw [g66] at e66
      clear g66
      clear hn ho hu
      go_simp
      exact hK _ _ (keeps_refl _) hI rfl
    · intro _ a w1 vs hI ho hn hu K hK
      obtain ⟨e67, g67⟩ : a.tmps[67]? = some (vs 56) ∧ vs 56 = .pointer (some ⟨b, o + 4, none⟩) := hn 56 (by decide)
      rw [g67] at e67
      clear g67
      clear hn ho hu
      have c0 := keeps_cell hI K10.out
      go_simp
      exact hK _ _ (keeps_refl _) hI rfl
    · intro _ a w1 vs hI ho hn hu K hK
      obtain ⟨e68, g68⟩ : a.tmps[68]? = some (vs 57) ∧ vs 57 = .string B1 := hn 57 (by decide)
      rw [g68] at e68
      clear g68
      clear hn ho hu
      go_simp
      exact hK _ _ (keeps_refl _) hI rfl
    · intro _ a w1 vs hI ho hn hu K hK
      obtain ⟨e64, g64⟩ : a.tmps[64]? = some (vs 53) ∧ vs 53 = .int .i64 (B0.size : Int) := hn 53 (by decide)
      rw [g64] at e64
      clear g64
      obtain ⟨e69, g69⟩ : a.tmps[69]? = some (vs 58) ∧ vs 58 = .int .i64 (B1.size : Int) := hn 58 (by decide)
      rw [g69] at e69
      clear g69
      clear hn ho hu
      go_simp
      rw [HWS.out]
      exact hK _ _ (keeps_refl _) hI rfl
    · intro _ a w1 vs hI ho hn hu K hK
      obtain ⟨e59, g59⟩ : a.tmps[59]? = some (vs 48) ∧ vs 48 = .int .i64 ((B0.size : Int) + (B1.size : Int)) := hn 48 (by decide)
      rw [g59] at e59
      clear g59
      obtain ⟨e70, g70⟩ : a.tmps[70]? = some (vs 59) ∧ vs 59 = .int .i64 ((B0.size : Int) + (B1.size : Int)) := hn 59 (by decide)
      rw [g70] at e70
      clear g70
      clear hn ho hu
      go_simp
      exact hK _ _ (keeps_refl _) hI rfl
    · intro _ a w1 vs hI ho hn hu K hK
      obtain ⟨e57, g57⟩ : a.tmps[57]? = some (vs 46) ∧ vs 46 = .bool true := hn 46 (by decide)
      rw [g57] at e57
      clear g57
      obtain ⟨e71, g71⟩ : a.tmps[71]? = some (vs 60) ∧ vs 60 = .bool true := hn 60 (by decide)
      rw [g71] at e71
      clear g71
      clear hn ho hu
      go_simp
      exact hK _ _ (keeps_refl _) hI rfl
    · intro _ a w1 vs hI ho hn hu K hK
      obtain ⟨e72, g72⟩ : a.tmps[72]? = some (vs 61) ∧ vs 61 = .bool true := hn 61 (by decide)
      rw [g72] at e72
      clear g72
      clear hn ho hu
      go_simp
      exact hK _ _ (keeps_refl _) hI rfl
  · intro vs wE hI hG
    have eL62 : vs 62 = .bool true := hG 62 (by decide)
    have HKE := Lib.hid hI
    clear hG hI
    simp only [setAll, Nat.zero_add, Nat.reduceAdd, List.setIfInBounds_toArray, List.set_cons_zero, List.set_cons_succ, eL62]
    clear eL62
    generalize vs 0 = y0 at *
    generalize vs 1 = y1 at *
    generalize vs 2 = y2 at *
    generalize vs 3 = y3 at *
    generalize vs 4 = y4 at *
    generalize vs 5 = y5 at *
    generalize vs 6 = y6 at *
    generalize vs 7 = y7 at *
    generalize vs 8 = y8 at *
    generalize vs 9 = y9 at *
    generalize vs 10 = y10 at *
    generalize vs 11 = y11 at *
    generalize vs 12 = y12 at *
    generalize vs 13 = y13 at *
    generalize vs 14 = y14 at *
    generalize vs 15 = y15 at *
    generalize vs 16 = y16 at *
    generalize vs 17 = y17 at *
    generalize vs 18 = y18 at *
    generalize vs 19 = y19 at *
    generalize vs 20 = y20 at *
    generalize vs 21 = y21 at *
    generalize vs 22 = y22 at *
    generalize vs 23 = y23 at *
    generalize vs 24 = y24 at *
    generalize vs 25 = y25 at *
    generalize vs 26 = y26 at *
    generalize vs 27 = y27 at *
    generalize vs 28 = y28 at *
    generalize vs 29 = y29 at *
    generalize vs 30 = y30 at *
    generalize vs 31 = y31 at *
    generalize vs 32 = y32 at *
    generalize vs 33 = y33 at *
    generalize vs 34 = y34 at *
    generalize vs 35 = y35 at *
    generalize vs 36 = y36 at *
    generalize vs 37 = y37 at *
    generalize vs 38 = y38 at *
    generalize vs 39 = y39 at *
    generalize vs 40 = y40 at *
    generalize vs 41 = y41 at *
    generalize vs 42 = y42 at *
    generalize vs 43 = y43 at *
    generalize vs 44 = y44 at *
    generalize vs 45 = y45 at *
    generalize vs 46 = y46 at *
    generalize vs 47 = y47 at *
    generalize vs 48 = y48 at *
    generalize vs 49 = y49 at *
    generalize vs 50 = y50 at *
    generalize vs 51 = y51 at *
    generalize vs 52 = y52 at *
    generalize vs 53 = y53 at *
    generalize vs 54 = y54 at *
    generalize vs 55 = y55 at *
    generalize vs 56 = y56 at *
    generalize vs 57 = y57 at *
    generalize vs 58 = y58 at *
    generalize vs 59 = y59 at *
    generalize vs 60 = y60 at *
    generalize vs 61 = y61 at *
    go_wp2_with fail
    go_ret
    exact ⟨rfl, HK5.out.trans HKE.out⟩
end Go.Proofs.Yteandjophamipaa
