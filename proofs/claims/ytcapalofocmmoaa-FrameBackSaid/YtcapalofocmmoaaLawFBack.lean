/- The walk of the law FrameBack. -/
import Derived.Test.YtcapalofocmmoaaLawFTurned
import Derived.Deep.DeepCutAuto
namespace Go.Proofs.Ytcapalofocmmoaa
open Go.RowKit
def RowH (w : World) (g : Nat) (cs : Array Value) (T : TypeId) : Prop := w.heap[g]? = some (.cells cs T (0, 0))
theorem RowH.keeps {w w' : World} {g : Nat} {cs : Array Value} {T : TypeId} (h : RowH w g cs T) (k : Keeps w w') : RowH w' g cs T := (k.2.2.2.2 g (Array.getElem?_eq_some_iff.1 h).1).trans h
theorem RowH.chg {S : Nat → Prop} {w w' : World} {g : Nat} {cs : Array Value} {T : TypeId} (h : RowH w g cs T) (c : Chg S w w') (hT : ¬ S g) : RowH w' g cs T := (c.2.2.2.2 g (Array.getElem?_eq_some_iff.1 h).1 hT).trans h
structure FB (w0 w : World) (N : Nat) (a1 a2 b1 b2 c1 c2 k1 k2 : Int) : Prop where
  kp : Keeps w0 w
  r0 : RowH w N #[.int .i64 a1, .int .i64 a2] 43
  r1 : RowH w (N + 1) #[.int .i64 b1, .int .i64 b2] 43
  r2 : RowH w (N + 1 + 1) #[.int .i64 c1, .int .i64 c2] 43
  r3 : RowH w (N + 1 + 1 + 1) #[.int .i64 k1, .int .i64 k2] 45
theorem FB.keeps {w0 w w' : World} {N : Nat} {a1 a2 b1 b2 c1 c2 k1 k2 : Int} (h : FB w0 w N a1 a2 b1 b2 c1 c2 k1 k2) (k : Keeps w w') : FB w0 w' N a1 a2 b1 b2 c1 c2 k1 k2 :=
  ⟨h.kp.trans k, h.r0.keeps k, h.r1.keeps k, h.r2.keeps k, h.r3.keeps k⟩
theorem fb_new (w : World) (a1 a2 b1 b2 c1 c2 k1 k2 : Int) : FB w ((((w.alloc (.cells #[.int .i64 a1, .int .i64 a2] 43)).alloc (.cells #[.int .i64 b1, .int .i64 b2] 43)).alloc (.cells #[.int .i64 c1, .int .i64 c2] 43)).alloc (.cells #[.int .i64 k1, .int .i64 k2] 45)) w.heap.size a1 a2 b1 b2 c1 c2 k1 k2 := by
  have z : ∀ (v : World) (ob : Obj), (v.alloc ob).heap.size = v.heap.size + 1 := fun v ob => by simp
  have n : ∀ (v : World) (cs : Array Value) (T : TypeId), RowH (v.alloc (.cells cs T)) v.heap.size cs T := fun v cs T => heap_alloc_new _ _
  refine ⟨(((kal _ _).trans (kal _ _)).trans (kal _ _)).trans (kal _ _), (((n _ _ _).keeps (kal _ _)).keeps (kal _ _)).keeps (kal _ _), ?_, ?_, ?_⟩
  · rw [← z w]; exact ((n _ _ _).keeps (kal _ _)).keeps (kal _ _)
  · rw [← z w, ← z (w.alloc _)]; exact (n _ _ _).keeps (kal _ _)
  · rw [← z w, ← z (w.alloc _), ← z ((w.alloc _).alloc _)]; exact n _ _ _
theorem less_cases (a1 a2 b1 b2 c1 c2 : Int) : (lessF a1 a2 b1 b2 = false ∧ lessF b1 b2 a1 a2 = false ∧ stEq a1 a2 b1 b2 = true) ∨ (lessF a1 a2 b1 b2 = false ∧ lessF b1 b2 a1 a2 = true ∧ stEq a1 a2 b1 b2 = false) ∨
    (lessF a1 a2 b1 b2 = true ∧ lessF b1 b2 a1 a2 = false ∧ stEq a1 a2 b1 b2 = false ∧ (lessF b1 b2 c1 c2 = true → lessF a1 a2 c1 c2 = true)) := by
  have e : ∀ x y z t : Int, stEq x y z t = decide (x = z ∧ y = t) := fun x y z t => by
    by_cases h : x = z ∧ y = t
    · rw [decide_eq_true h]; exact stEq_iff.2 h
    · rw [decide_eq_false h]
      cases hq : stEq x y z t with
      | false => rfl
      | true => exact absurd (stEq_iff.1 hq) h
  rw [e]
  unfold lessF
  simp only [decide_eq_true_eq, decide_eq_false_iff_not]
  omega
theorem digest_turned {L : List UInt8} {κ : Nat} {y : UInt8} (hL : readOk L = true) (h1 : L.length - 32 ≤ κ) (h2 : κ < L.length) : readOk (L.set κ y) = decide (L.getD κ 0 = y) := by
  have hg : L.getD κ 0 = L[κ] := by rw [List.getD_eq_getElem?_getD, List.getElem?_eq_getElem h2]; rfl
  by_cases h : L.getD κ 0 = y
  · rw [decide_eq_true h, ← h, hg, List.set_getElem_self]; exact hL
  · rw [decide_eq_false h]
    cases e : readOk (L.set κ y) with
    | false => rfl
    | true =>
      have := (turned hL e).1
      have h3 := congrArg (fun l : List UInt8 => l[κ - (L.length - 32)]?) this
      simp only [List.getElem?_drop] at h3
      rw [show L.length - 32 + (κ - (L.length - 32)) = κ by omega, List.getElem?_set_self h2, List.getElem?_eq_getElem h2] at h3
      injection h3 with h3
      exact absurd (by rw [hg, h3]) h
theorem one_row (v : World) (y : UInt8) : RowAt (v.alloc (.cells #[.int .u8 (y.toNat : Int)] 5)).heap (.slice (some ⟨v.heap.size, 0, none⟩) 1 1) [y] := by
  refine ⟨_, 1, rfl, by simp, fun i hi => ?_⟩
  obtain rfl : i = 0 := by simpa using hi
  refine ⟨v.heap.size, 0, _, rfl, ?_, rfl⟩
  rw [← cell_of]
  exact World.cell?_alloc_new _ _ _ _
set_option maxRecDepth 100000 in
set_option maxHeartbeats 8000000 in
theorem fback_any (a1 a2 b1 b2 c1 c2 k1 k2 : Int) (body data : ByteArray) (at_ x : Int) (w : World) (hx : 0 ≤ x ∧ x < 256) : Calls Try.prog 12 #[stV a1 a2, stV b1 b2, stV c1 c2, stV k1 k2, .string body, .string data, .int .i64 at_, .int .u8 x] w fun e w' => e = .returned (.bool true) ∧ Keeps w w' := by
  have HWK := Lib.hid frworks_any
  unfold stV
  obtain ⟨y, rfl⟩ : ∃ y : UInt8, x = (y.toNat : Int) := ⟨UInt8.ofNat x.toNat, by rw [UInt8.toNat_ofNat']; omega⟩
  clear hx
  obtain ⟨w1, hw1⟩ : ∃ w1, w1 = (((w.alloc (.cells #[.int .i64 a1, .int .i64 a2] 43)).alloc (.cells #[.int .i64 b1, .int .i64 b2] 43)).alloc (.cells #[.int .i64 c1, .int .i64 c2] 43)).alloc (.cells #[.int .i64 k1, .int .i64 k2] 45) := ⟨_, rfl⟩
  have HFB1 : Hid (FB w w1 w.heap.size a1 a2 b1 b2 c1 c2 k1 k2) := by rw [hw1]; exact fb_new w a1 a2 b1 b2 c1 c2 k1 k2
  by_cases ga : 5000 < body.size
  · have ia : (5000 : Int) < (body.size : Int) := by omega
    have da : decide ((5000 : Int) < (body.size : Int)) = true := decide_eq_true ia
    clear ga
    go_enter Try.func12, Try.ntmps12
    go_wp2_with fail
    rw [← hw1]
    clear hw1
    generalize w.heap.size = N at *
    refine Calls.mono (HWK.out _) ?_
    rintro e w2 ⟨rfl, hk⟩
    have HFB2 := Lib.hid (HFB1.out.keeps hk)
    clear hk HFB1
    go_wp2_with fail
    refine Calls.mono (HWK.out _) ?_
    rintro e w3 ⟨rfl, hk⟩
    go_wp2_with fail
    go_ret
    exact ⟨rfl, HFB2.out.kp.trans hk⟩
  have ia : ¬ (5000 : Int) < (body.size : Int) := by omega
  have da : decide ((5000 : Int) < (body.size : Int)) = false := decide_eq_false ia
  by_cases gb : 5000 < data.size
  · have ib : (5000 : Int) < (data.size : Int) := by omega
    have db : decide ((5000 : Int) < (data.size : Int)) = true := decide_eq_true ib
    clear ga gb
    go_enter Try.func12, Try.ntmps12
    go_wp2_with fail
    rw [← hw1]
    clear hw1
    generalize w.heap.size = N at *
    refine Calls.mono (HWK.out _) ?_
    rintro e w2 ⟨rfl, hk⟩
    have HFB2 := Lib.hid (HFB1.out.keeps hk)
    clear hk HFB1
    go_wp2_with fail
    refine Calls.mono (HWK.out _) ?_
    rintro e w3 ⟨rfl, hk⟩
    go_wp2_with fail
    go_ret
    exact ⟨rfl, HFB2.out.kp.trans hk⟩
  have ib : ¬ (5000 : Int) < (data.size : Int) := by omega
  have db : decide ((5000 : Int) < (data.size : Int)) = false := decide_eq_false ib
  have hbs : body.size ≤ 5000 := by omega
  have hds : data.size ≤ 5000 := by omega
  clear ga gb
  have HLC := Lib.hid (less_cases a1 a2 b1 b2 c1 c2)
  have HL1 := Lib.hid (frless_any a1 a2 b1 b2)
  have HL2 := Lib.hid (frless_any b1 b2 a1 a2)
  have HL3 := Lib.hid (frless_any b1 b2 c1 c2)
  have HL4 := Lib.hid (frless_any a1 a2 c1 c2)
  have HSE := Lib.hid (run_stEq a1 a2 b1 b2)
  unfold stV at HL1 HL2 HL3 HL4
  generalize lessF a1 a2 b1 b2 = X at *
  generalize lessF b1 b2 a1 a2 = Y at *
  generalize lessF b1 b2 c1 c2 = Z at *
  generalize lessF a1 a2 c1 c2 = U at *
  generalize stEq a1 a2 b1 b2 = q at *
  go_enter Try.func12, Try.ntmps12
  go_wp2_with fail
  rw [← hw1]
  clear hw1
  generalize w.heap.size = N at *
  refine Calls.mono (HWK.out _) ?_
  rintro e w2 ⟨rfl, hk⟩
  have HFB2 := Lib.hid (HFB1.out.keeps hk)
  clear hk HFB1
  have s00 : w2.cell? ⟨N, 0, none⟩ = some (.int .i64 a1) := cell_of_row w2 N 0 _ _ _ HFB2.out.r0
  have s01 : w2.cell? ⟨N, 1, none⟩ = some (.int .i64 a2) := cell_of_row w2 N 1 _ _ _ HFB2.out.r0
  have s10 : w2.cell? ⟨N + 1, 0, none⟩ = some (.int .i64 b1) := cell_of_row w2 (N + 1) 0 _ _ _ HFB2.out.r1
  have s11 : w2.cell? ⟨N + 1, 1, none⟩ = some (.int .i64 b2) := cell_of_row w2 (N + 1) 1 _ _ _ HFB2.out.r1
  go_wp2_with fail
  refine Calls.mono (HL1.out _) ?_
  rintro e w3 ⟨rfl, hk⟩
  have HFB3 := Lib.hid (HFB2.out.keeps hk)
  clear hk HFB2 s00 s01 s10 s11 HL1
  have s00 : w3.cell? ⟨N, 0, none⟩ = some (.int .i64 a1) := cell_of_row w3 N 0 _ _ _ HFB3.out.r0
  have s01 : w3.cell? ⟨N, 1, none⟩ = some (.int .i64 a2) := cell_of_row w3 N 1 _ _ _ HFB3.out.r0
  have s10 : w3.cell? ⟨N + 1, 0, none⟩ = some (.int .i64 b1) := cell_of_row w3 (N + 1) 0 _ _ _ HFB3.out.r1
  have s11 : w3.cell? ⟨N + 1, 1, none⟩ = some (.int .i64 b2) := cell_of_row w3 (N + 1) 1 _ _ _ HFB3.out.r1
  go_wp2_with fail
  refine Calls.mono (HL2.out _) ?_
  rintro e w4 ⟨rfl, hk⟩
  have HFB4 := Lib.hid (HFB3.out.keeps hk)
  clear hk HFB3 s00 s01 s10 s11 HL2
  go_upto_region 5 with (fail)
  go_cut [82] (fun v wz => v = .bool false ∧ Hid (FB w wz N a1 a2 b1 b2 c1 c2 k1 k2))
  case first =>
    have s00 : w4.cell? ⟨N, 0, none⟩ = some (.int .i64 a1) := cell_of_row w4 N 0 _ _ _ HFB4.out.r0
    have s01 : w4.cell? ⟨N, 1, none⟩ = some (.int .i64 a2) := cell_of_row w4 N 1 _ _ _ HFB4.out.r0
    have s10 : w4.cell? ⟨N + 1, 0, none⟩ = some (.int .i64 b1) := cell_of_row w4 (N + 1) 0 _ _ _ HFB4.out.r1
    have s11 : w4.cell? ⟨N + 1, 1, none⟩ = some (.int .i64 b2) := cell_of_row w4 (N + 1) 1 _ _ _ HFB4.out.r1
    have s20 : w4.cell? ⟨N + 1 + 1, 0, none⟩ = some (.int .i64 c1) := cell_of_row w4 (N + 1 + 1) 0 _ _ _ HFB4.out.r2
    have s21 : w4.cell? ⟨N + 1 + 1, 1, none⟩ = some (.int .i64 c2) := cell_of_row w4 (N + 1 + 1) 1 _ _ _ HFB4.out.r2
    have hse := HSE.out
    rcases HLC.out with ⟨rfl, rfl, rfl⟩ | ⟨rfl, rfl, rfl⟩ | ⟨rfl, rfl, rfl, hu⟩
    · clear HLC HL3 HL4 HSE
      go_wp2_with fail
      go_meet
      exact ⟨rfl, HFB4⟩
    · clear HLC HL3 HL4 HSE
      go_wp2_with fail
      go_meet
      exact ⟨rfl, HFB4⟩
    · have HU := Lib.hid hu
      clear HLC HSE hu
      go_wp2_with fail
      refine Calls.mono (HL3.out _) ?_
      rintro e w5 ⟨rfl, hk⟩
      have HFB5 := Lib.hid (HFB4.out.keeps hk)
      clear hk HFB4 s00 s01 s10 s11 s20 s21
      have s00 : w5.cell? ⟨N, 0, none⟩ = some (.int .i64 a1) := cell_of_row w5 N 0 _ _ _ HFB5.out.r0
      have s01 : w5.cell? ⟨N, 1, none⟩ = some (.int .i64 a2) := cell_of_row w5 N 1 _ _ _ HFB5.out.r0
      have s20 : w5.cell? ⟨N + 1 + 1, 0, none⟩ = some (.int .i64 c1) := cell_of_row w5 (N + 1 + 1) 0 _ _ _ HFB5.out.r2
      have s21 : w5.cell? ⟨N + 1 + 1, 1, none⟩ = some (.int .i64 c2) := cell_of_row w5 (N + 1 + 1) 1 _ _ _ HFB5.out.r2
      cases Z with
      | false =>
        go_wp2_with fail
        go_meet
        exact ⟨rfl, HFB5⟩
      | true =>
        have hU := HU.out rfl
        subst hU
        go_wp2_with fail
        refine Calls.mono (HL4.out _) ?_
        rintro e w6 ⟨rfl, hk⟩
        have HFB6 := Lib.hid (HFB5.out.keeps hk)
        clear hk HFB5 s00 s01 s20 s21
        go_wp2_with fail
        go_meet
        exact ⟨rfl, HFB6⟩
  case rest =>
    obtain ⟨rfl, HFB⟩ := hcut
    clear HLC HL3 HL4 HSE HFB4
    obtain ⟨ep, gen, kk, n, b, er, hr⟩ := readF_shape2 data.data.toList
    have HRD := Lib.hid (fun wx => frread_any data wx (by omega))
    rw [hr] at HRD
    unfold frV at HRD
    dsimp only at HRD
    have HER : Hid (er = 4 ∨ (er = 0 ∧ ∀ wx : World, Calls Try.prog 31 #[frV ep gen kk n b] wx fun e w' => e = .returned (.tuple #[.string data, .int .i64 0]) ∧ Keeps wx w')) := by
      show _ ∨ _
      cases h : readOk data.data.toList with
      | false => rw [readF_no h] at hr; unfold frV at hr; cases hr; exact .inl rfl
      | true =>
        obtain ⟨ep2, gen2, kk2, n2, body2, hm, hl, hd⟩ := readOk_is h
        rw [hd, readF_seal hm hl] at hr
        unfold frV at hr
        cases hr
        refine .inr ⟨rfl, fun wx => ?_⟩
        have := frmake_any ep2 gen2 kk2 n2 (strB body2) wx (by rw [strB_size]; omega)
        rw [makeF_yes hm hl, ← hd, strB_data] at this
        exact this
    clear hr
    unfold frV at HER
    go_wp2_with fail
    refine Calls.mono (HRD.out _) ?_
    rintro e w5 ⟨rfl, hk⟩
    have HFB5 := Lib.hid (HFB.out.keeps hk)
    clear hk HFB HRD
    have HFB6 : Hid (FB w (w5.alloc (.cells (frA ep gen kk n b) 47)) N a1 a2 b1 b2 c1 c2 k1 k2) := HFB5.out.keeps (kal _ _)
    have HN6 : Hid (FrRow (w5.alloc (.cells (frA ep gen kk n b) 47)) w5.heap.size ep gen kk n b) := heap_alloc_new _ _
    go_upto_if 89 with (refine wpList_store_row rfl 47 (.tmp 19) (.tmp 86) rfl w5.heap.size (frA ep gen kk n b) rfl rfl 47 _ (heap_alloc_last w5 _) (by kernel_rfl) rfl (frA_one ep gen kk n b) ?_; rw [World.setRow_alloc_new])
    go_cut [] (fun wz => Hid (FB w wz N a1 a2 b1 b2 c1 c2 k1 k2))
    case first =>
      rcases HER.out with rfl | ⟨rfl, hmk⟩
      · clear HER HN6
        go_wp2_with fail
        go_meet
        exact HFB6
      · have HMK := Lib.hid hmk
        clear HER hmk
        have f0 : (w5.alloc (.cells (frA ep gen kk n b) 47)).cell? ⟨w5.heap.size, 0, none⟩ = some (.int .i64 ep) := cell_of_row _ _ 0 _ _ _ HN6.out
        have f1 : (w5.alloc (.cells (frA ep gen kk n b) 47)).cell? ⟨w5.heap.size, 1, none⟩ = some (.int .i64 gen) := cell_of_row _ _ 1 _ _ _ HN6.out
        have f2 : (w5.alloc (.cells (frA ep gen kk n b) 47)).cell? ⟨w5.heap.size, 2, none⟩ = some (.int .i64 kk) := cell_of_row _ _ 2 _ _ _ HN6.out
        have f3 : (w5.alloc (.cells (frA ep gen kk n b) 47)).cell? ⟨w5.heap.size, 3, none⟩ = some (.int .i64 n) := cell_of_row _ _ 3 _ _ _ HN6.out
        have f4 : (w5.alloc (.cells (frA ep gen kk n b) 47)).cell? ⟨w5.heap.size, 4, none⟩ = some (.string b) := cell_of_row _ _ 4 _ _ _ HN6.out
        have hq : (data.toList == data.toList) = true := by rw [txt_eq]; exact decide_eq_true rfl
        go_wp2_with fail
        refine Calls.mono (HMK.out _) ?_
        rintro e w7 ⟨rfl, hk⟩
        have HFB7 := Lib.hid (HFB6.out.keeps hk)
        clear hk HFB6 HN6 f0 f1 f2 f3 f4
        go_wp2_with fail
        go_meet
        exact HFB7
    case rest =>
      have HFB := Lib.hid hcut.out
      clear hcut HFB6 HN6 HER HFB5
      generalize wc = w6 at *
      have HM1 := Lib.hid (fun wx => frmake_any a1 a2 k1 k2 body wx (by omega))
      unfold frV at HM1
      have s00 : w6.cell? ⟨N, 0, none⟩ = some (.int .i64 a1) := cell_of_row w6 N 0 _ _ _ HFB.out.r0
      have s01 : w6.cell? ⟨N, 1, none⟩ = some (.int .i64 a2) := cell_of_row w6 N 1 _ _ _ HFB.out.r0
      have s30 : w6.cell? ⟨N + 1 + 1 + 1, 0, none⟩ = some (.int .i64 k1) := cell_of_row w6 (N + 1 + 1 + 1) 0 _ _ _ HFB.out.r3
      have s31 : w6.cell? ⟨N + 1 + 1 + 1, 1, none⟩ = some (.int .i64 k2) := cell_of_row w6 (N + 1 + 1 + 1) 1 _ _ _ HFB.out.r3
      have HFB7 : Hid (FB w (w6.alloc (.cells (frA a1 a2 k1 k2 body) 47)) N a1 a2 b1 b2 c1 c2 k1 k2) := HFB.out.keeps (kal _ _)
      have HY7 : Hid (FrRow (w6.alloc (.cells (frA a1 a2 k1 k2 body) 47)) w6.heap.size a1 a2 k1 k2 body) := heap_alloc_new _ _
      have f0 : (w6.alloc (.cells (frA a1 a2 k1 k2 body) 47)).cell? ⟨w6.heap.size, 0, none⟩ = some (.int .i64 a1) := cell_of_row _ _ 0 _ _ _ HY7.out
      have f1 : (w6.alloc (.cells (frA a1 a2 k1 k2 body) 47)).cell? ⟨w6.heap.size, 1, none⟩ = some (.int .i64 a2) := cell_of_row _ _ 1 _ _ _ HY7.out
      have f2 : (w6.alloc (.cells (frA a1 a2 k1 k2 body) 47)).cell? ⟨w6.heap.size, 2, none⟩ = some (.int .i64 k1) := cell_of_row _ _ 2 _ _ _ HY7.out
      have f3 : (w6.alloc (.cells (frA a1 a2 k1 k2 body) 47)).cell? ⟨w6.heap.size, 3, none⟩ = some (.int .i64 k2) := cell_of_row _ _ 3 _ _ _ HY7.out
      have f4 : (w6.alloc (.cells (frA a1 a2 k1 k2 body) 47)).cell? ⟨w6.heap.size, 4, none⟩ = some (.string body) := cell_of_row _ _ 4 _ _ _ HY7.out
      go_wp2_with (refine wpList_store_row rfl 47 (.tmp 23) (.tmp 105) rfl w6.heap.size (frA a1 a2 k1 k2 body) rfl rfl 47 _ (heap_alloc_last w6 _) (by kernel_rfl) rfl (frA_one a1 a2 k1 k2 body) ?_; rw [World.setRow_alloc_new])
      refine Calls.mono (HM1.out _) ?_
      rintro e w8 ⟨rfl, hk⟩
      have HFB8 := Lib.hid (HFB7.out.keeps hk)
      have HY8 : Hid (FrRow w8 w6.heap.size a1 a2 k1 k2 body) := HY7.out.keeps hk
      clear hk HFB7 HY7 f0 f1 f2 f3 f4 s00 s01 s30 s31 HM1
      generalize w6.heap.size = NY at *
      rcases makeF_cases a1 a2 k1 k2 body with ⟨E, hE, hm⟩ | ⟨hmay, hsz, hm⟩
      · rw [hm]
        dsimp only
        have g5 : (E != 0) = true := by rw [bne_iff_ne]; exact hE
        have g6 : decide (E = 0) = false := decide_eq_false hE
        have g7 : (E == 0) = false := beq_eq_false_iff_ne.2 hE
        clear hm hE
        go_wp2_with fail
        go_ret
        exact ⟨rfl, HFB8.out.kp⟩
      rw [hm]
      dsimp only
      obtain ⟨L, hL⟩ : ∃ L, L = sealF (textF a1.toNat a2.toNat k1.toNat k2.toNat body.data.toList) := ⟨_, rfl⟩
      have m1 := mayF_true.1 hmay
      have hlen : L.length = 50 + body.size := by rw [hL, sealF_length, textF_length, data_size]; omega
      have hok : readOk L = true := by rw [hL]; exact readOk_seal (by rw [show ((a1.toNat : Nat) : Int) = a1 by omega, show ((a2.toNat : Nat) : Int) = a2 by omega, show ((k1.toNat : Nat) : Int) = k1 by omega, show ((k2.toNat : Nat) : Int) = k2 by omega]; exact hmay) (by rw [data_size]; exact hsz)
      have hrd : readF L = (frV a1 a2 k1 k2 body, 0) := by rw [hL, readF_seal (by rw [show ((a1.toNat : Nat) : Int) = a1 by omega, show ((a2.toNat : Nat) : Int) = a2 by omega, show ((k1.toNat : Nat) : Int) = k1 by omega, show ((k2.toNat : Nat) : Int) = k2 by omega]; exact hmay) (by rw [data_size]; exact hsz), show ((a1.toNat : Nat) : Int) = a1 by omega, show ((a2.toNat : Nat) : Int) = a2 by omega, show ((k1.toNat : Nat) : Int) = k1 by omega, show ((k2.toNat : Nat) : Int) = k2 by omega, strB_data]
      rw [← hL]
      clear m1 hmay hm hL hsz
      obtain ⟨S, hS⟩ : ∃ S, S = strB L := ⟨_, rfl⟩
      have hSL : S.data.toList = L := by rw [hS]; rfl
      have hSz : S.size = L.length := by rw [hS, strB_size]
      rw [← hS]
      have HRS := Lib.hid (fun wx => frread_any S wx (by omega))
      rw [hSL, hrd] at HRS
      obtain ⟨q1, hq1⟩ : ∃ q1, q1 = S.size - 1 := ⟨_, rfl⟩
      have hc1 : readOk (L.take q1) = false := read_cut hok (by rw [List.take_take]; congr 1; omega) (by rw [List.length_take]; omega)
      have HRC := Lib.hid (fun wx => frread_any (strB (L.take q1)) wx (by rw [strB_size, List.length_take]; omega))
      rw [show (strB (L.take q1)).data.toList = L.take q1 from rfl, readF_no hc1] at HRC
      have hc2 : readOk (L ++ [y]) = false := read_cut hok (by rw [List.take_append_of_le_length (by omega)]) (by rw [List.length_append]; simp)
      have HRA := Lib.hid (fun wx => frread_any (S ++ strB [y]) wx (by rw [ByteArray.size_append, strB_size]; simp; omega))
      have hap : (S ++ strB [y]).data.toList = L ++ [y] := by rw [← hSL]; simp [strB]
      rw [hap, readF_no hc2] at HRA
      clear hap hc1 hc2
      have R1 := str_front S q1 (by omega)
      rw [hSL] at R1
      have R1 := Lib.hid R1
      obtain ⟨κ, hκ, hke⟩ := rem_some at_ 32 (by omega) (by omega)
      have HKE : Hid (wrap64 ((IntKind.u64.wrap at_).tmod 32) = (κ : Int)) := hke
      obtain ⟨pp, hpp⟩ : ∃ pp, pp = q1 - κ := ⟨_, rfl⟩
      have hdt := digest_turned (y := y) hok (show L.length - 32 ≤ pp by omega) (show pp < L.length by omega)
      obtain ⟨Lp, hLp⟩ : ∃ Lp, Lp = L.set pp y := ⟨_, rfl⟩
      rw [← hLp] at hdt
      have hLpl : Lp.length = L.length := by rw [hLp, List.length_set]
      obtain ⟨ep, gen, kk, n, b, er, hr⟩ := readF_shape2 Lp
      have HRP := Lib.hid (fun wx => frread_any (strB Lp) wx (by rw [strB_size]; omega))
      rw [show (strB Lp).data.toList = Lp from rfl, hr] at HRP
      have HER : Hid ((er = 0 ∧ L.getD pp 0 = y) ∨ (er = 4 ∧ L.getD pp 0 ≠ y)) := by
        show _ ∨ _
        by_cases h : L.getD pp 0 = y
        · rw [decide_eq_true h] at hdt
          have := readF_yes hdt
          rw [hr] at this
          exact .inl ⟨this, h⟩
        · rw [decide_eq_false h] at hdt
          have := readF_no2 hdt
          rw [hr] at this
          exact .inr ⟨this, h⟩
      unfold frV at HRS HRC HRA HRP
      dsimp only at HRP
      clear hr hdt hrd hok hke
      have HQ1 : Hid ((S.size : Int) - 1 = (q1 : Int)) := by show _ = _; omega
      have HPP : Hid ((q1 : Int) - (κ : Int) = (pp : Int)) := by show _ = _; omega
      have hmb : S.size ≤ 5050 := by omega
      have hpS : pp < S.size := by omega
      have hqS : q1 ≤ S.size := by omega
      have h0 : 0 < S.data.toList.length := by rw [hSL]; omega
      have HLL := Lib.hid hSz
      have HSL := Lib.hid hSL
      have HSET := Lib.hid hLp
      have HBS := Lib.hid hlen
      clear hq1 hpp hSz hLpl hSL hLp hlen hS
      go_wp2_with fail
      refine Calls.mono (HRS.out _) ?_
      rintro e w9 ⟨rfl, hk⟩
      have HFB9 := Lib.hid (HFB8.out.keeps hk)
      have HY9 : Hid (FrRow w9 NY a1 a2 k1 k2 body) := HY8.out.keeps hk
      clear hk HFB8 HY8 HRS
      have HFB10 : Hid (FB w (w9.alloc (.cells (frA a1 a2 k1 k2 body) 47)) N a1 a2 b1 b2 c1 c2 k1 k2) := HFB9.out.keeps (kal _ _)
      have HY10 : Hid (FrRow (w9.alloc (.cells (frA a1 a2 k1 k2 body) 47)) NY a1 a2 k1 k2 body) := HY9.out.keeps (kal _ _)
      have HZ10 : Hid (FrRow (w9.alloc (.cells (frA a1 a2 k1 k2 body) 47)) w9.heap.size a1 a2 k1 k2 body) := heap_alloc_new _ _
      have r1 := R1.out
      have hq1 := HQ1.out
      have hw1 : IntKind.i64.wrap (q1 : Int) = (q1 : Int) := IntWalk.i64_in _ (by omega)
      have hw2 : IntKind.i64.wrap ((S.size : Int) - 1) = (q1 : Int) := by rw [hq1]; exact hw1
      clear HFB9 HY9
      go_wp2_with (refine wpList_store_row rfl 47 (.tmp 25) (.tmp 118) rfl w9.heap.size (frA a1 a2 k1 k2 body) rfl rfl 47 _ (heap_alloc_last w9 _) (by kernel_rfl) rfl (frA_one a1 a2 k1 k2 body) ?_; rw [World.setRow_alloc_new])
      refine Calls.mono (HRC.out _) ?_
      rintro e w11 ⟨rfl, hk⟩
      have HFB11 := Lib.hid (HFB10.out.keeps hk)
      have HY11 : Hid (FrRow w11 NY a1 a2 k1 k2 body) := HY10.out.keeps hk
      have HZ11 : Hid (FrRow w11 w9.heap.size a1 a2 k1 k2 body) := HZ10.out.keeps hk
      clear hk HFB10 HY10 HZ10 HRC R1 r1
      generalize w9.heap.size = NZ at *
      have hcv := conv_row (P := Try.prog) (src := 59) (dst := 9) (e := 5) Try.underlying59 (by kernel_rfl) Try.underlying9 (one_row (w11.alloc (.cells (frA 0 0 0 0 ⟨#[]⟩) 47)) y)
      rw [show (w11.alloc (.cells (frA 0 0 0 0 ⟨#[]⟩) 47)).heap.size = w11.heap.size + 1 by simp] at hcv
      have hss : (strB [y]).size = 1 := by rw [strB_size]; rfl
      have hsn : (9223372036854775807 < S.size + (strB [y]).size) = False := eq_false (by omega)
      have hsn2 : (9223372036854775807 < S.size + 1) = False := eq_false (by omega)
      have HFB13 : Hid (FB w ((w11.alloc (.cells (frA 0 0 0 0 ⟨#[]⟩) 47)).alloc (.cells #[.int .u8 (y.toNat : Int)] 5)) N a1 a2 b1 b2 c1 c2 k1 k2) := (HFB11.out.keeps (kal _ _)).keeps (kal _ _)
      have HY13 : Hid (FrRow ((w11.alloc (.cells (frA 0 0 0 0 ⟨#[]⟩) 47)).alloc (.cells #[.int .u8 (y.toNat : Int)] 5)) NY a1 a2 k1 k2 body) := (HY11.out.keeps (kal _ _)).keeps (kal _ _)
      have HZ13 : Hid (FrRow ((w11.alloc (.cells (frA 0 0 0 0 ⟨#[]⟩) 47)).alloc (.cells #[.int .u8 (y.toNat : Int)] 5)) NZ a1 a2 k1 k2 body) := (HZ11.out.keeps (kal _ _)).keeps (kal _ _)
      go_wp2_with (refine wpList_store_row rfl 47 (.tmp 27) (.tmp 127) rfl w11.heap.size (frA 0 0 0 0 ⟨#[]⟩) rfl rfl 47 _ (heap_alloc_last w11 _) (by kernel_rfl) rfl (frA_one 0 0 0 0 ⟨#[]⟩) ?_; rw [World.setRow_alloc_new])
      refine Calls.mono (HRA.out _) ?_
      rintro e w14 ⟨rfl, hk⟩
      have HFB14 := Lib.hid (HFB13.out.keeps hk)
      have HY14 : Hid (FrRow w14 NY a1 a2 k1 k2 body) := HY13.out.keeps hk
      have HZ14 : Hid (FrRow w14 NZ a1 a2 k1 k2 body) := HZ13.out.keeps hk
      clear hk HFB13 HY13 HZ13 HFB11 HY11 HZ11 HRA hcv hss hsn hsn2
      have HFB15 : Hid (FB w (w14.alloc (.cells (frA 0 0 0 0 ⟨#[]⟩) 47)) N a1 a2 b1 b2 c1 c2 k1 k2) := HFB14.out.keeps (kal _ _)
      have HY15 : Hid (FrRow (w14.alloc (.cells (frA 0 0 0 0 ⟨#[]⟩) 47)) NY a1 a2 k1 k2 body) := HY14.out.keeps (kal _ _)
      have HZ15 : Hid (FrRow (w14.alloc (.cells (frA 0 0 0 0 ⟨#[]⟩) 47)) NZ a1 a2 k1 k2 body) := HZ14.out.keeps (kal _ _)
      have f0 : (w14.alloc (.cells (frA 0 0 0 0 ⟨#[]⟩) 47)).cell? ⟨NY, 0, none⟩ = some (.int .i64 a1) := cell_of_row _ _ 0 _ _ _ HY15.out
      have f1 : (w14.alloc (.cells (frA 0 0 0 0 ⟨#[]⟩) 47)).cell? ⟨NY, 1, none⟩ = some (.int .i64 a2) := cell_of_row _ _ 1 _ _ _ HY15.out
      have f2 : (w14.alloc (.cells (frA 0 0 0 0 ⟨#[]⟩) 47)).cell? ⟨NY, 2, none⟩ = some (.int .i64 k1) := cell_of_row _ _ 2 _ _ _ HY15.out
      have f3 : (w14.alloc (.cells (frA 0 0 0 0 ⟨#[]⟩) 47)).cell? ⟨NY, 3, none⟩ = some (.int .i64 k2) := cell_of_row _ _ 3 _ _ _ HY15.out
      have f4 : (w14.alloc (.cells (frA 0 0 0 0 ⟨#[]⟩) 47)).cell? ⟨NY, 4, none⟩ = some (.string body) := cell_of_row _ _ 4 _ _ _ HY15.out
      have g0 : (w14.alloc (.cells (frA 0 0 0 0 ⟨#[]⟩) 47)).cell? ⟨NZ, 0, none⟩ = some (.int .i64 a1) := cell_of_row _ _ 0 _ _ _ HZ15.out
      have g1 : (w14.alloc (.cells (frA 0 0 0 0 ⟨#[]⟩) 47)).cell? ⟨NZ, 1, none⟩ = some (.int .i64 a2) := cell_of_row _ _ 1 _ _ _ HZ15.out
      have g2 : (w14.alloc (.cells (frA 0 0 0 0 ⟨#[]⟩) 47)).cell? ⟨NZ, 2, none⟩ = some (.int .i64 k1) := cell_of_row _ _ 2 _ _ _ HZ15.out
      have g3 : (w14.alloc (.cells (frA 0 0 0 0 ⟨#[]⟩) 47)).cell? ⟨NZ, 3, none⟩ = some (.int .i64 k2) := cell_of_row _ _ 3 _ _ _ HZ15.out
      have g4 : (w14.alloc (.cells (frA 0 0 0 0 ⟨#[]⟩) 47)).cell? ⟨NZ, 4, none⟩ = some (.string body) := cell_of_row _ _ 4 _ _ _ HZ15.out
      have hbb : (body.toList == body.toList) = true := by rw [txt_eq]; exact decide_eq_true rfl
      have hke := HKE.out
      have hpp := HPP.out
      have hw3 : IntKind.i64.wrap (pp : Int) = (pp : Int) := IntWalk.i64_in _ (by omega)
      have hw4 : IntKind.i64.wrap ((q1 : Int) - (κ : Int)) = (pp : Int) := by rw [hpp]; exact hw3
      have hw5 : wrap64 (pp : Int) = (pp : Int) := w64' _ (by omega) (by omega)
      have hw6 : wrap64 ((q1 : Int) - (κ : Int)) = (pp : Int) := by rw [hpp]; exact hw5
      go_upto_region 22 with (refine wpList_store_row rfl 47 (.tmp 29) (.tmp 136) rfl w14.heap.size (frA 0 0 0 0 ⟨#[]⟩) rfl rfl 47 _ (heap_alloc_last w14 _) (by kernel_rfl) rfl (frA_one 0 0 0 0 ⟨#[]⟩) ?_; rw [World.setRow_alloc_new])
      generalize w14.alloc (.cells (frA 0 0 0 0 ⟨#[]⟩) 47) = w15 at *
      clear f0 f1 f2 f3 f4 g0 g1 g2 g3 g4 hbb hke hpp hw1 hw2 hw3 hw4 hw5 hw6 HFB14 HY14 HZ14 HY15 HZ15 HKE HPP hq1 HQ1
      obtain ⟨zb, hzb⟩ : ∃ zb : UInt8, zb = L.getD pp 0 := ⟨_, rfl⟩
      have HZB := Lib.hid hzb
      rw [← hzb] at HER
      clear hzb
      have HSM : Hid ((er = 0 ∧ ((zb.toNat : Int) == (y.toNat : Int)) = true) ∨ (er = 4 ∧ ((zb.toNat : Int) == (y.toNat : Int)) = false)) := by
        show _ ∨ _
        rcases HER.out with ⟨h1, h2⟩ | ⟨h1, h2⟩
        · subst h2; exact .inl ⟨h1, by simp⟩
        · exact .inr ⟨h1, beq_eq_false_iff_ne.2 fun e => h2 (UInt8.toNat_inj.1 (by omega))⟩
      clear HER
      generalize hyi : (y.toNat : Int) = yi at *
      have HYI := Lib.hid hyi
      clear hyi
      rcases HSM.out with ⟨rfl, hs⟩ | ⟨rfl, hs⟩
      · have HS := Lib.hid hs
        clear hs
        go_wp2_with (refine wp_bytes rfl 9 59 (.tmp 161) rfl S rfl Try.underlying9 Try.underlying59 Try.underlying5 (by omega) ?_; intro c w16 hc hrow hk4; have hb := BRow.of hrow h0; rw [HSL.out, ← HLL.out] at hb; obtain ⟨hbc, hbf⟩ := hb.cell hpS; (try dsimp only at hbc); rw [← HZB.out] at hbc; generalize hzi : (zb.toNat : Int) = zi at *; have HZI := Lib.hid hzi; clear hzi; have hsi : (zi == yi) = true := HS.out; have HB4 := Lib.hid (fset_row hrow h0 hpS y hmb); rw [HSL.out, ← HSET.out, HYI.out] at HB4; have hcv := conv_row (P := Try.prog) (src := 59) (dst := 9) (e := 5) Try.underlying59 (by kernel_rfl) Try.underlying9 HB4.out)
        refine Calls.mono (HRP.out _) ?_
        rintro e w17 ⟨rfl, hk⟩
        have HK17 : Hid (Keeps w w17) := ((Chg.setCell (Kept.any (T := fun b => w15.heap.size ≤ b) (HFB15.out.kp.trans hk4)) (p := ⟨w15.heap.size, pp, none⟩) (fun _ => Nat.le_refl _) _).keeps fun b h1 h2 => by have := HFB15.out.kp.size; omega).trans hk
        have HK18 : Hid (Keeps w (w17.alloc (.cells (frA ep gen kk n b) 47))) := HK17.out.trans (kal _ _)
        clear hk hk4 hrow hb HB4 hcv HFB15
        go_wp2_with (refine wpList_store_row rfl 47 (.tmp 34) (.tmp 177) rfl w17.heap.size (frA ep gen kk n b) rfl rfl 47 _ (heap_alloc_last w17 _) (by kernel_rfl) rfl (frA_one ep gen kk n b) ?_; rw [World.setRow_alloc_new])
        go_ret
        exact ⟨rfl, HK18.out⟩
      · have HS := Lib.hid hs
        clear hs
        go_wp2_with (refine wp_bytes rfl 9 59 (.tmp 161) rfl S rfl Try.underlying9 Try.underlying59 Try.underlying5 (by omega) ?_; intro c w16 hc hrow hk4; have hb := BRow.of hrow h0; rw [HSL.out, ← HLL.out] at hb; obtain ⟨hbc, hbf⟩ := hb.cell hpS; (try dsimp only at hbc); rw [← HZB.out] at hbc; generalize hzi : (zb.toNat : Int) = zi at *; have HZI := Lib.hid hzi; clear hzi; have hsi : (zi == yi) = false := HS.out; have HB4 := Lib.hid (fset_row hrow h0 hpS y hmb); rw [HSL.out, ← HSET.out, HYI.out] at HB4; have hcv := conv_row (P := Try.prog) (src := 59) (dst := 9) (e := 5) Try.underlying59 (by kernel_rfl) Try.underlying9 HB4.out)
        refine Calls.mono (HRP.out _) ?_
        rintro e w17 ⟨rfl, hk⟩
        have HK17 : Hid (Keeps w w17) := ((Chg.setCell (Kept.any (T := fun b => w15.heap.size ≤ b) (HFB15.out.kp.trans hk4)) (p := ⟨w15.heap.size, pp, none⟩) (fun _ => Nat.le_refl _) _).keeps fun b h1 h2 => by have := HFB15.out.kp.size; omega).trans hk
        have HK18 : Hid (Keeps w (w17.alloc (.cells (frA ep gen kk n b) 47))) := HK17.out.trans (kal _ _)
        clear hk hk4 hrow hb HB4 hcv HFB15
        go_wp2_with (refine wpList_store_row rfl 47 (.tmp 34) (.tmp 177) rfl w17.heap.size (frA ep gen kk n b) rfl rfl 47 _ (heap_alloc_last w17 _) (by kernel_rfl) rfl (frA_one ep gen kk n b) ?_; rw [World.setRow_alloc_new])
        go_ret
        exact ⟨rfl, HK18.out⟩
end Go.Proofs.Ytcapalofocmmoaa
