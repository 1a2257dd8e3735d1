/- The walk of the laws' own works. -/
import Derived.Test.YtojdodbedemkoaaLaw03c
import Derived.Test.YtojdodbedemkoaaClosed03
import Derived.Test.YtojdodbedemkoaaMatCode
import Derived.Deep.DrawnRows
import Derived.Test.YtojdodbedemkoaaRegion
namespace Go.Proofs.Ytojdodbedemkoaa
open Go.RowKit
attribute [local go_sem ↓] Go.wp_at_zero Go.wp_at_succ

theorem inv_2 (b : Nat) (w : World) (ht : Tab w.heap b) : Calls Try.prog 58 #[.pointer (some ⟨b, 0, none⟩), .int .u8 2] w fun e w' => e = .returned (.tuple #[.int .u8 142, .bool true]) ∧ ∃ n, w' = w.drewN n := by
  refine (inv_tab b 2 w ht (by omega)).mono ?_
  rintro e w' ⟨rfl, h⟩
  exact ⟨by rw [show ((2 : Int).toNat) = 2 from rfl, ex_inv2]; rfl, h⟩
theorem inv_3 (b : Nat) (w : World) (ht : Tab w.heap b) : Calls Try.prog 58 #[.pointer (some ⟨b, 0, none⟩), .int .u8 3] w fun e w' => e = .returned (.tuple #[.int .u8 244, .bool true]) ∧ ∃ n, w' = w.drewN n := by
  refine (inv_tab b 3 w ht (by omega)).mono ?_
  rintro e w' ⟨rfl, h⟩
  exact ⟨by rw [show ((3 : Int).toNat) = 3 from rfl, ex_inv3]; rfl, h⟩
theorem mul_25 (b : Nat) (w : World) (ht : Tab w.heap b) : Calls Try.prog 35 #[.pointer (some ⟨b, 0, none⟩), .int .u8 142, .int .u8 5] w fun e w' => e = .returned (.int .u8 140) ∧ ∃ n, w' = w.drewN n := by
  refine (mul_tab b 142 5 w ht (by omega) (by omega)).mono ?_
  rintro e w' ⟨rfl, h⟩
  exact ⟨by rw [show FM.mul (142 : Int).toNat (5 : Int).toNat = 140 from by decide +kernel]; rfl, h⟩
theorem mul_37 (b : Nat) (w : World) (ht : Tab w.heap b) : Calls Try.prog 35 #[.pointer (some ⟨b, 0, none⟩), .int .u8 244, .int .u8 7] w fun e w' => e = .returned (.int .u8 246) ∧ ∃ n, w' = w.drewN n := by
  refine (mul_tab b 244 7 w ht (by omega) (by omega)).mono ?_
  rintro e w' ⟨rfl, h⟩
  exact ⟨by rw [show FM.mul (244 : Int).toNat (7 : Int).toNat = 246 from by decide +kernel]; rfl, h⟩
theorem add_ex (p : Value) (w : World) : Calls Try.prog 36 #[p, .int .u8 140, .int .u8 246] w fun e w' => e = .returned (.int .u8 122) ∧ w = w' :=
  add_any p 140 246 w (by omega) (by omega)
theorem one_2 (w : World) : Calls Try.prog 18 #[.int .i64 2] w (GiveMat w ([[1, 0], [0, 1]], 0)) := ex_one ▸ matone_any 2 w
theorem of_24 (w : World) : Calls Try.prog 17 #[.agg #[.int .i64 2, .int .i64 4]] w (GiveMat w (exM, 0)) := ex_of ▸ matof_any 2 4 w
theorem vec_57 (va vb : Value) (w : World) (ha : MatAt w.heap va exM) (hb : RowAt w.heap vb [5, 7]) : Calls Try.prog 28 #[va, vb] w (GiveRow w (exV, 0)) := ex_vec ▸ matvec_any va vb exM [5, 7] w ha hb
theorem rows_11 (va vb : Value) (w : World) (ha : MatAt w.heap va exM) (hb : SeqAt IsInt w.heap vb [1, 1]) : Calls Try.prog 29 #[va, vb] w (GiveMat w ([[0, 1], [0, 1]], 0)) := ex_rows ▸ matrows_any va vb exM [1, 1] w ha hb
theorem mul_ex (va vb : Value) (w : World) (ha : MatAt w.heap va [[1, 2], [3, 4]]) (hb : MatAt w.heap vb [[1, 2, 3]]) : Calls Try.prog 27 #[va, vb] w (GiveMat w ([], 4)) := ex_mul ▸ matmul_any va vb _ _ w ha hb
theorem is_yes (va vs : Value) (m : List (List UInt8)) (l : List ByteArray) (w : World) (hm : MatAt w.heap va m) (hs : SeqAt IsText w.heap vs l) (h : m.map strB = l) :
    Calls Try.prog 53 #[va, vs] w fun e w' => e = .returned (.bool true) ∧ ∃ n, w' = w.drewN n := by
  have := is_any va vs m l w hm hs
  rwa [decide_eq_true h] at this

theorem share {p q : Prop} (h1 : p) (h2 : Hid p → q) : q := h2 (Lib.hid h1)
theorem is_keeps (va vs : Value) (m : List (List UInt8)) (l : List ByteArray) (w : World) (hm : MatAt w.heap va m) (hs : SeqAt IsText w.heap vs l) (h : m.map strB = l) :
    Calls Try.prog 53 #[va, vs] w fun e w' => e = .returned (.bool true) ∧ Keeps w w' :=
  (is_yes va vs m l w hm hs h).mono fun _ _ ⟨a, n, b⟩ => ⟨a, by rw [b]; exact keeps_refl w⟩
set_option maxRecDepth 100000 in
set_option maxHeartbeats 4000000 in
theorem works_any (w : World) : Calls Try.prog 33 #[] w fun e w' => e = .returned (.bool true) ∧ Keeps w w' := by
  go_enter Try.func33, Try.ntmps33
  go_wp2_with fail
  refine Calls.mono (new_any _) ?_
  rintro e w1 ⟨rfl, hk1, ht1⟩
  have HK := Lib.hid hk1
  have HT := Lib.hid ht1
  clear hk1 ht1
  generalize w.heap.size = tb at *
  go_wp2_with fail
  refine Calls.mono (inv_2 tb w1 HT.out) ?_
  rintro e w' ⟨rfl, n1, rfl⟩
  go_wp2_with fail
  refine Calls.mono (inv_3 tb (w1.drewN n1) HT.out) ?_
  rintro e w' ⟨rfl, n2, rfl⟩
  go_wp2_with fail
  have HK : Hid (Keeps w (w1.drewN (n1 + n2))) := HK
  have HT : Hid (Tab (w1.drewN (n1 + n2)).heap tb) := HT
  generalize w1.drewN (n1 + n2) = w2 at *
  refine Calls.mono (one_2 _) ?_
  rintro e w3 ⟨v1, rfl, hm1, hk⟩
  have HK : Hid (Keeps w w3) := HK.out.call hk (Nat.le_refl _)
  have HT := Lib.hid (Tab.keeps HT.out hk)
  have H1 := Lib.hid hm1.at_
  clear hm1 hk
  go_wp2_with fail
  refine Calls.mono (of_24 _) ?_
  rintro e w4 ⟨v2, rfl, hm2, hk⟩
  have HK : Hid (Keeps w w4) := HK.out.call hk (Nat.le_refl _)
  have HT := Lib.hid (Tab.keeps HT.out hk)
  have H1 := Lib.hid (MatAt.keeps H1.out hk)
  have H2 := Lib.hid hm2.at_
  clear hm2 hk
  go_wp2_with fail
  refine Calls.mono (vec_57 _ _ _ (H2.out.al _) (rowAt_lit w4 [5, 7] 2 2 rfl (by omega))) ?_
  rintro e w5 ⟨v3, rfl, hm3, hk⟩
  have hk : Keeps w4 w5 := ((Kept.refl w4.heap.size w4).alloc (Nat.le_refl _) _).call hk (Nat.le_refl _)
  have HK : Hid (Keeps w w5) := HK.out.call hk (Nat.le_refl _)
  have HT := Lib.hid (Tab.keeps HT.out hk)
  have H1 := Lib.hid (MatAt.keeps H1.out hk)
  have H2 := Lib.hid (MatAt.keeps H2.out hk)
  have H3 := Lib.hid (SeqIn.at_ hm3)
  clear hm3 hk
  go_wp2_with fail
  refine Calls.mono (rows_11 _ _ _ (H2.out.al _) (intsAt_lit w5 [1, 1] 2 2 rfl (by omega))) ?_
  rintro e w6 ⟨v4, rfl, hm4, hk⟩
  have hk : Keeps w5 w6 := ((Kept.refl w5.heap.size w5).alloc (Nat.le_refl _) _).call hk (Nat.le_refl _)
  have HK : Hid (Keeps w w6) := HK.out.call hk (Nat.le_refl _)
  have HT := Lib.hid (Tab.keeps HT.out hk)
  have H1 := Lib.hid (MatAt.keeps H1.out hk)
  have H2 := Lib.hid (MatAt.keeps H2.out hk)
  have H3 := Lib.hid (SeqAt.keeps H3.out hk)
  have H4 := Lib.hid hm4.at_
  clear hm4 hk
  go_wp2_with fail
  refine Calls.mono (mul_ex _ _ _ (MatAt.al (MatAt.al (SeqAt.there (matAt_lit _ [_, _] [[1, 2], [3, 4]] 2 2 rfl (by omega) rfl (fun i hi => match i, hi with
    | 0, _ => RowAt.al (rowAt_lit w6 [1, 2] 2 2 rfl (by omega)) _
    | 1, _ => SeqAt.there (rowAt_lit _ [3, 4] 2 2 rfl (by omega)) (by simp))) (by simp)) _) _) (SeqAt.there (matAt_lit _ [_] [[1, 2, 3]] 1 1 rfl (by omega) rfl (fun i hi => match i, hi with
    | 0, _ => SeqAt.there (rowAt_lit _ [1, 2, 3] 3 3 rfl (by omega)) (by simp))) (by simp))) ?_
  rintro e w7 ⟨v5, rfl, hm5, hk⟩
  have hk : Keeps w6 w7 := Keeps.trans (Keeps.al (Keeps.al (Keeps.al (Keeps.al (Keeps.al (keeps_refl w6) _) _) _) _) _) hk
  have HK : Hid (Keeps w w7) := HK.out.call hk (Nat.le_refl _)
  have HT := Lib.hid (Tab.keeps HT.out hk)
  have H1 := Lib.hid (MatAt.keeps H1.out hk)
  have H2 := Lib.hid (MatAt.keeps H2.out hk)
  have H3 := Lib.hid (SeqAt.keeps H3.out hk)
  have H4 := Lib.hid (MatAt.keeps H4.out hk)
  clear hm5 hk
  go_wp2_with fail
  obtain ⟨b3, o3, q3, e3, c30⟩ := row_cell (j := 0) H3.out (by decide)
  subst e3
  obtain ⟨b3', o3', q3', e3, c31⟩ := row_cell (j := 1) H3.out (by decide)
  injection e3 with e3 e5 e6; injection e3 with e3; injection e3 with e3 e4; subst e3 e4 e6
  obtain ⟨b3', o3', q3', e3, c32⟩ := row_cell (j := 2) H3.out (by decide)
  injection e3 with e3 e5 e6; injection e3 with e3; injection e3 with e3 e4; subst e3 e4 e6
  have c30 : w7.cell? ⟨b3, o3, none⟩ = some (.int .u8 5) := c30
  have c31 : w7.cell? ⟨b3, o3 + 1, none⟩ = some (.int .u8 7) := c31
  have c32 : w7.cell? ⟨b3, o3 + 2, none⟩ = some (.int .u8 122) := c32
  have hb3 := cell_lt c30
  have hl4 : exV.length = 4 := rfl
  rw [hl4] at *
  clear hl4
  obtain ⟨i1, i2, i3⟩ : (0 : Int) < ((4 : Nat) : Int) ∧ (1 : Int) < ((4 : Nat) : Int) ∧ (2 : Int) < ((4 : Nat) : Int) := by omega
  clear H3
  refine wp_region_any (by kernel_rfl) ?_
  change wpAny _ _ _ _ _ _ _ (World.drew _)
  have HK : Hid (Keeps w w7.drew) := HK
  have HT : Hid (Tab w7.drew.heap tb) := HT
  have H1 : Hid (MatAt w7.drew.heap v1 [[1, 0], [0, 1]]) := H1
  have H2 : Hid (MatAt w7.drew.heap v2 exM) := H2
  have H4 : Hid (MatAt w7.drew.heap v4 [[0, 1], [0, 1]]) := H4
  have c30 : w7.drew.cell? ⟨b3, o3, none⟩ = some (.int .u8 5) := c30
  have c31 : w7.drew.cell? ⟨b3, o3 + 1, none⟩ = some (.int .u8 7) := c31
  have c32 : w7.drew.cell? ⟨b3, o3 + 2, none⟩ = some (.int .u8 122) := c32
  clear hb3
  generalize w7.drew = w8 at *
  refine wpAny_at 0 57 ((.bool true)) rfl (by kernel_rfl) (by kernel_rfl) (by kernel_rfl) (fun _ _ _ h => h) (by kernel_rfl) (fun w => by rfl) rfl ?_; (try simp only [List.setIfInBounds_toArray, List.set_cons_zero, List.set_cons_succ])
  refine wpAny_at 1 58 ((.bool true)) rfl (by kernel_rfl) (by kernel_rfl) (by kernel_rfl) (fun _ _ _ h => h) (by kernel_rfl) (fun w => by rfl) rfl ?_; (try simp only [List.setIfInBounds_toArray, List.set_cons_zero, List.set_cons_succ])
  refine wpAny_at 2 59 ((.bool true)) rfl (by kernel_rfl) (by kernel_rfl) (by kernel_rfl) (fun _ _ _ h => h) (by kernel_rfl) (fun w => by rfl) rfl ?_; (try simp only [List.setIfInBounds_toArray, List.set_cons_zero, List.set_cons_succ])
  refine wpAny_at 3 60 ((.bool true)) rfl (by kernel_rfl) (by kernel_rfl) (by kernel_rfl) (fun _ _ _ h => h) (by kernel_rfl) (fun w => by rfl) rfl ?_; (try simp only [List.setIfInBounds_toArray, List.set_cons_zero, List.set_cons_succ])
  refine wpAny_at 4 61 ((.bool true)) rfl (by kernel_rfl) (by kernel_rfl) (by kernel_rfl) (fun _ _ _ h => h) (by kernel_rfl) (fun w => by rfl) rfl ?_; (try simp only [List.setIfInBounds_toArray, List.set_cons_zero, List.set_cons_succ])
  refine wpAny_at 5 62 ((.int .i64 0)) rfl (by kernel_rfl) (by kernel_rfl) (by kernel_rfl) (fun _ _ _ h => h) (by kernel_rfl) (fun w => by rfl) rfl ?_; (try simp only [List.setIfInBounds_toArray, List.set_cons_zero, List.set_cons_succ])
  refine wpAny_at 6 63 ((.bool true)) rfl (by kernel_rfl) (by kernel_rfl) (by kernel_rfl) (fun _ _ _ h => h) (by kernel_rfl) (fun w => by rfl) rfl ?_; (try simp only [List.setIfInBounds_toArray, List.set_cons_zero, List.set_cons_succ])
  refine wpAny_at 7 64 ((.bool true)) rfl (by kernel_rfl) (by kernel_rfl) (by kernel_rfl) (fun _ _ _ h => h) (by kernel_rfl) (fun w => by rfl) rfl ?_; (try simp only [List.setIfInBounds_toArray, List.set_cons_zero, List.set_cons_succ])
  refine wpAny_at 8 65 ((.bool true)) rfl (by kernel_rfl) (by kernel_rfl) (by kernel_rfl) (fun _ _ _ h => h) (by kernel_rfl) (fun w => by rfl) rfl ?_; (try simp only [List.setIfInBounds_toArray, List.set_cons_zero, List.set_cons_succ])
  refine wpAny_at 9 66 ((v1)) rfl (by kernel_rfl) (by kernel_rfl) (by kernel_rfl) (fun _ _ _ h => h) (by kernel_rfl) (fun w => by rfl) rfl ?_; (try simp only [List.setIfInBounds_toArray, List.set_cons_zero, List.set_cons_succ])
  refine wpAny_ready (rs := [10]) (by kernel_rfl) (by simp) ?_
  refine AllReady.cons rfl (fun K hK => ?_) AllReady.nil
  go_simp
  try (refine hK _ _ ?_; clear hK K)
  refine wpAny_ready (rs := [11]) (by kernel_rfl) (by simp) ?_
  refine AllReady.cons rfl (fun K hK => ?_) AllReady.nil
  go_simp
  go_wp2_with fail
  refine Calls.mono (is_keeps _ _ [[1, 0], [0, 1]] [⟨#[1, 0]⟩, ⟨#[0, 1]⟩] _ (H1.out.al _) (textsAt_lit w8 [⟨#[1, 0]⟩, ⟨#[0, 1]⟩] 2 2 rfl (by omega)) rfl) ?_
  rintro e w9 ⟨rfl, hk⟩
  have hk : Keeps w8 w9 := Keeps.trans (Keeps.al (keeps_refl w8) _) hk
  have HK : Hid (Keeps w w9) := HK.out.call hk (Nat.le_refl _)
  try (refine hK _ _ ?_; clear hK K)
  have HT := Lib.hid (Tab.keeps HT.out hk)
  have H2 := Lib.hid (MatAt.keeps H2.out hk)
  have H4 := Lib.hid (MatAt.keeps H4.out hk)
  have c30 := keeps_cell hk c30
  have c31 := keeps_cell hk c31
  have c32 := keeps_cell hk c32
  clear hk H1
  go_wp2_with fail
  try (refine hK _ _ ?_; clear hK K)
  refine wpAny_at 12 69 ((.bool true)) rfl (by kernel_rfl) (by kernel_rfl) (by kernel_rfl) (fun _ _ _ h => h) (by kernel_rfl) (fun w => by rfl) rfl ?_; (try simp only [List.setIfInBounds_toArray, List.set_cons_zero, List.set_cons_succ])
  refine wpAny_at 13 70 ((.bool true)) rfl (by kernel_rfl) (by kernel_rfl) (by kernel_rfl) (fun _ _ _ h => h) (by kernel_rfl) (fun w => by rfl) rfl ?_; (try simp only [List.setIfInBounds_toArray, List.set_cons_zero, List.set_cons_succ])
  refine wpAny_at 14 71 ((.int .i64 0)) rfl (by kernel_rfl) (by kernel_rfl) (by kernel_rfl) (fun _ _ _ h => h) (by kernel_rfl) (fun w => by rfl) rfl ?_; (try simp only [List.setIfInBounds_toArray, List.set_cons_zero, List.set_cons_succ])
  refine wpAny_at 15 72 ((.bool true)) rfl (by kernel_rfl) (by kernel_rfl) (by kernel_rfl) (fun _ _ _ h => h) (by kernel_rfl) (fun w => by rfl) rfl ?_; (try simp only [List.setIfInBounds_toArray, List.set_cons_zero, List.set_cons_succ])
  refine wpAny_at 16 73 ((.bool true)) rfl (by kernel_rfl) (by kernel_rfl) (by kernel_rfl) (fun _ _ _ h => h) (by kernel_rfl) (fun w => by rfl) rfl ?_; (try simp only [List.setIfInBounds_toArray, List.set_cons_zero, List.set_cons_succ])
  refine wpAny_at 17 74 ((.bool true)) rfl (by kernel_rfl) (by kernel_rfl) (by kernel_rfl) (fun _ _ _ h => h) (by kernel_rfl) (fun w => by rfl) rfl ?_; (try simp only [List.setIfInBounds_toArray, List.set_cons_zero, List.set_cons_succ])
  refine wpAny_at 18 75 ((v2)) rfl (by kernel_rfl) (by kernel_rfl) (by kernel_rfl) (fun _ _ _ h => h) (by kernel_rfl) (fun w => by rfl) rfl ?_; (try simp only [List.setIfInBounds_toArray, List.set_cons_zero, List.set_cons_succ])
  refine wpAny_at 19 76 ((.int .u8 142)) rfl (by kernel_rfl) (by kernel_rfl) (by kernel_rfl) (fun _ _ _ h => h) (by kernel_rfl) (fun w => by rfl) rfl ?_; (try simp only [List.setIfInBounds_toArray, List.set_cons_zero, List.set_cons_succ])
  refine wpAny_at 20 77 ((.int .u8 244)) rfl (by kernel_rfl) (by kernel_rfl) (by kernel_rfl) (fun _ _ _ h => h) (by kernel_rfl) (fun w => by rfl) rfl ?_; (try simp only [List.setIfInBounds_toArray, List.set_cons_zero, List.set_cons_succ])
  refine wpAny_at 23 80 ((.int .u8 244)) rfl (by kernel_rfl) (by kernel_rfl) (by kernel_rfl) (fun _ _ _ h => h) (by kernel_rfl) (fun w => by rfl) rfl ?_; (try simp only [List.setIfInBounds_toArray, List.set_cons_zero, List.set_cons_succ])
  refine wpAny_at 24 81 ((.int .u8 142)) rfl (by kernel_rfl) (by kernel_rfl) (by kernel_rfl) (fun _ _ _ h => h) (by kernel_rfl) (fun w => by rfl) rfl ?_; (try simp only [List.setIfInBounds_toArray, List.set_cons_zero, List.set_cons_succ])
  apply share
  case h2 =>
    intro T
    refine wpAny_ready (rs := [21, 25]) (by kernel_rfl) (by simp) ?_
    refine AllReady.cons rfl (fun K hK => ?_) ?_
    ·
      go_simp
      try (refine hK _ _ ?_; clear hK K)
      refine wpAny_ready (rs := [22, 25]) (by kernel_rfl) (by simp) ?_
      refine AllReady.cons rfl (fun K hK => ?_) ?_
      ·
        have cv := conv8 (w := (w9.alloc (.cells #[.int .u8 142, .int .u8 244] 5))) (rowAt_lit _ [142, 244] 2 2 rfl (by omega)) 0
        change (convert _ _ _).run _ (w9.alloc (.cells #[.int .u8 142, .int .u8 244] 5)) = .ok (.string ⟨#[142, 244]⟩) (w9.alloc (.cells #[.int .u8 142, .int .u8 244] 5)) at cv
        go_simp
        clear cv
        try (refine hK _ _ ?_; clear hK K)
        refine wpAny_ready (rs := [25]) (by kernel_rfl) (by simp) ?_
        refine AllReady.cons rfl (fun K hK => ?_) ?_
        ·
          go_simp
          try (refine hK _ _ ?_; clear hK K)
          refine wpAny_ready (rs := [26]) (by kernel_rfl) (by simp) ?_
          refine AllReady.cons rfl (fun K hK => ?_) ?_
          ·
            have cv := conv8 (w := ((w9.alloc (.cells #[.int .u8 142, .int .u8 244] 5)).alloc (.cells #[.int .u8 244, .int .u8 142] 5))) (SeqAt.there (rowAt_lit _ [244, 142] 2 2 rfl (by omega)) (by simp : _ = w9.heap.size + 1)) 0
            change (convert _ _ _).run _ ((w9.alloc (.cells #[.int .u8 142, .int .u8 244] 5)).alloc (.cells #[.int .u8 244, .int .u8 142] 5)) = .ok (.string ⟨#[244, 142]⟩) ((w9.alloc (.cells #[.int .u8 142, .int .u8 244] 5)).alloc (.cells #[.int .u8 244, .int .u8 142] 5)) at cv
            go_simp
            clear cv
            try (refine hK _ _ ?_; clear hK K)
            have hk : Hid (Keeps w9 ((w9.alloc (.cells #[.int .u8 142, .int .u8 244] 5)).alloc (.cells #[.int .u8 244, .int .u8 142] 5))) := Keeps.al (Keeps.al (keeps_refl w9) _) _
            generalize ((w9.alloc (.cells #[.int .u8 142, .int .u8 244] 5)).alloc (.cells #[.int .u8 244, .int .u8 142] 5)) = wz at *
            generalize (Value.slice (some ⟨w9.heap.size, 0, none⟩) 2 2) = s78
            generalize (Value.slice (some ⟨w9.heap.size + 1, 0, none⟩) 2 2) = s82
            revert hk wz s78 s82
            exact T.out
          exact AllReady.nil
        exact AllReady.nil
      refine AllReady.cons rfl (fun K hK => ?_) ?_
      ·
        go_simp
        try (refine hK _ _ ?_; clear hK K)
        refine wpAny_ready (rs := [22, 26]) (by kernel_rfl) (by simp) ?_
        refine AllReady.cons rfl (fun K hK => ?_) ?_
        ·
          have cv := conv8 (w := ((w9.alloc (.cells #[.int .u8 142, .int .u8 244] 5)).alloc (.cells #[.int .u8 244, .int .u8 142] 5))) (RowAt.al (rowAt_lit _ [142, 244] 2 2 rfl (by omega)) _) 0
          change (convert _ _ _).run _ ((w9.alloc (.cells #[.int .u8 142, .int .u8 244] 5)).alloc (.cells #[.int .u8 244, .int .u8 142] 5)) = .ok (.string ⟨#[142, 244]⟩) ((w9.alloc (.cells #[.int .u8 142, .int .u8 244] 5)).alloc (.cells #[.int .u8 244, .int .u8 142] 5)) at cv
          go_simp
          clear cv
          try (refine hK _ _ ?_; clear hK K)
          refine wpAny_ready (rs := [26]) (by kernel_rfl) (by simp) ?_
          refine AllReady.cons rfl (fun K hK => ?_) ?_
          ·
            have cv := conv8 (w := ((w9.alloc (.cells #[.int .u8 142, .int .u8 244] 5)).alloc (.cells #[.int .u8 244, .int .u8 142] 5))) (SeqAt.there (rowAt_lit _ [244, 142] 2 2 rfl (by omega)) (by simp : _ = w9.heap.size + 1)) 0
            change (convert _ _ _).run _ ((w9.alloc (.cells #[.int .u8 142, .int .u8 244] 5)).alloc (.cells #[.int .u8 244, .int .u8 142] 5)) = .ok (.string ⟨#[244, 142]⟩) ((w9.alloc (.cells #[.int .u8 142, .int .u8 244] 5)).alloc (.cells #[.int .u8 244, .int .u8 142] 5)) at cv
            go_simp
            clear cv
            try (refine hK _ _ ?_; clear hK K)
            have hk : Hid (Keeps w9 ((w9.alloc (.cells #[.int .u8 142, .int .u8 244] 5)).alloc (.cells #[.int .u8 244, .int .u8 142] 5))) := Keeps.al (Keeps.al (keeps_refl w9) _) _
            generalize ((w9.alloc (.cells #[.int .u8 142, .int .u8 244] 5)).alloc (.cells #[.int .u8 244, .int .u8 142] 5)) = wz at *
            generalize (Value.slice (some ⟨w9.heap.size, 0, none⟩) 2 2) = s78
            generalize (Value.slice (some ⟨w9.heap.size + 1, 0, none⟩) 2 2) = s82
            revert hk wz s78 s82
            exact T.out
          exact AllReady.nil
        refine AllReady.cons rfl (fun K hK => ?_) ?_
        ·
          have cv := conv8 (w := ((w9.alloc (.cells #[.int .u8 142, .int .u8 244] 5)).alloc (.cells #[.int .u8 244, .int .u8 142] 5))) (SeqAt.there (rowAt_lit _ [244, 142] 2 2 rfl (by omega)) (by simp : _ = w9.heap.size + 1)) 0
          change (convert _ _ _).run _ ((w9.alloc (.cells #[.int .u8 142, .int .u8 244] 5)).alloc (.cells #[.int .u8 244, .int .u8 142] 5)) = .ok (.string ⟨#[244, 142]⟩) ((w9.alloc (.cells #[.int .u8 142, .int .u8 244] 5)).alloc (.cells #[.int .u8 244, .int .u8 142] 5)) at cv
          go_simp
          clear cv
          try (refine hK _ _ ?_; clear hK K)
          refine wpAny_ready (rs := [22]) (by kernel_rfl) (by simp) ?_
          refine AllReady.cons rfl (fun K hK => ?_) ?_
          ·
            have cv := conv8 (w := ((w9.alloc (.cells #[.int .u8 142, .int .u8 244] 5)).alloc (.cells #[.int .u8 244, .int .u8 142] 5))) (RowAt.al (rowAt_lit _ [142, 244] 2 2 rfl (by omega)) _) 0
            change (convert _ _ _).run _ ((w9.alloc (.cells #[.int .u8 142, .int .u8 244] 5)).alloc (.cells #[.int .u8 244, .int .u8 142] 5)) = .ok (.string ⟨#[142, 244]⟩) ((w9.alloc (.cells #[.int .u8 142, .int .u8 244] 5)).alloc (.cells #[.int .u8 244, .int .u8 142] 5)) at cv
            go_simp
            clear cv
            try (refine hK _ _ ?_; clear hK K)
            have hk : Hid (Keeps w9 ((w9.alloc (.cells #[.int .u8 142, .int .u8 244] 5)).alloc (.cells #[.int .u8 244, .int .u8 142] 5))) := Keeps.al (Keeps.al (keeps_refl w9) _) _
            generalize ((w9.alloc (.cells #[.int .u8 142, .int .u8 244] 5)).alloc (.cells #[.int .u8 244, .int .u8 142] 5)) = wz at *
            generalize (Value.slice (some ⟨w9.heap.size, 0, none⟩) 2 2) = s78
            generalize (Value.slice (some ⟨w9.heap.size + 1, 0, none⟩) 2 2) = s82
            revert hk wz s78 s82
            exact T.out
          exact AllReady.nil
        exact AllReady.nil
      exact AllReady.nil
    refine AllReady.cons rfl (fun K hK => ?_) ?_
    ·
      go_simp
      try (refine hK _ _ ?_; clear hK K)
      refine wpAny_ready (rs := [21, 26]) (by kernel_rfl) (by simp) ?_
      refine AllReady.cons rfl (fun K hK => ?_) ?_
      ·
        go_simp
        try (refine hK _ _ ?_; clear hK K)
        refine wpAny_ready (rs := [22, 26]) (by kernel_rfl) (by simp) ?_
        refine AllReady.cons rfl (fun K hK => ?_) ?_
        ·
          have cv := conv8 (w := ((w9.alloc (.cells #[.int .u8 244, .int .u8 142] 5)).alloc (.cells #[.int .u8 142, .int .u8 244] 5))) (SeqAt.there (rowAt_lit _ [142, 244] 2 2 rfl (by omega)) (by simp : _ = w9.heap.size + 1)) 0
          change (convert _ _ _).run _ ((w9.alloc (.cells #[.int .u8 244, .int .u8 142] 5)).alloc (.cells #[.int .u8 142, .int .u8 244] 5)) = .ok (.string ⟨#[142, 244]⟩) ((w9.alloc (.cells #[.int .u8 244, .int .u8 142] 5)).alloc (.cells #[.int .u8 142, .int .u8 244] 5)) at cv
          go_simp
          clear cv
          try (refine hK _ _ ?_; clear hK K)
          refine wpAny_ready (rs := [26]) (by kernel_rfl) (by simp) ?_
          refine AllReady.cons rfl (fun K hK => ?_) ?_
          ·
            have cv := conv8 (w := ((w9.alloc (.cells #[.int .u8 244, .int .u8 142] 5)).alloc (.cells #[.int .u8 142, .int .u8 244] 5))) (RowAt.al (rowAt_lit _ [244, 142] 2 2 rfl (by omega)) _) 0
            change (convert _ _ _).run _ ((w9.alloc (.cells #[.int .u8 244, .int .u8 142] 5)).alloc (.cells #[.int .u8 142, .int .u8 244] 5)) = .ok (.string ⟨#[244, 142]⟩) ((w9.alloc (.cells #[.int .u8 244, .int .u8 142] 5)).alloc (.cells #[.int .u8 142, .int .u8 244] 5)) at cv
            go_simp
            clear cv
            try (refine hK _ _ ?_; clear hK K)
            have hk : Hid (Keeps w9 ((w9.alloc (.cells #[.int .u8 244, .int .u8 142] 5)).alloc (.cells #[.int .u8 142, .int .u8 244] 5))) := Keeps.al (Keeps.al (keeps_refl w9) _) _
            generalize ((w9.alloc (.cells #[.int .u8 244, .int .u8 142] 5)).alloc (.cells #[.int .u8 142, .int .u8 244] 5)) = wz at *
            generalize (Value.slice (some ⟨w9.heap.size + 1, 0, none⟩) 2 2) = s78
            generalize (Value.slice (some ⟨w9.heap.size, 0, none⟩) 2 2) = s82
            revert hk wz s78 s82
            exact T.out
          exact AllReady.nil
        refine AllReady.cons rfl (fun K hK => ?_) ?_
        ·
          have cv := conv8 (w := ((w9.alloc (.cells #[.int .u8 244, .int .u8 142] 5)).alloc (.cells #[.int .u8 142, .int .u8 244] 5))) (RowAt.al (rowAt_lit _ [244, 142] 2 2 rfl (by omega)) _) 0
          change (convert _ _ _).run _ ((w9.alloc (.cells #[.int .u8 244, .int .u8 142] 5)).alloc (.cells #[.int .u8 142, .int .u8 244] 5)) = .ok (.string ⟨#[244, 142]⟩) ((w9.alloc (.cells #[.int .u8 244, .int .u8 142] 5)).alloc (.cells #[.int .u8 142, .int .u8 244] 5)) at cv
          go_simp
          clear cv
          try (refine hK _ _ ?_; clear hK K)
          refine wpAny_ready (rs := [22]) (by kernel_rfl) (by simp) ?_
          refine AllReady.cons rfl (fun K hK => ?_) ?_
          ·
            have cv := conv8 (w := ((w9.alloc (.cells #[.int .u8 244, .int .u8 142] 5)).alloc (.cells #[.int .u8 142, .int .u8 244] 5))) (SeqAt.there (rowAt_lit _ [142, 244] 2 2 rfl (by omega)) (by simp : _ = w9.heap.size + 1)) 0
            change (convert _ _ _).run _ ((w9.alloc (.cells #[.int .u8 244, .int .u8 142] 5)).alloc (.cells #[.int .u8 142, .int .u8 244] 5)) = .ok (.string ⟨#[142, 244]⟩) ((w9.alloc (.cells #[.int .u8 244, .int .u8 142] 5)).alloc (.cells #[.int .u8 142, .int .u8 244] 5)) at cv
            go_simp
            clear cv
            try (refine hK _ _ ?_; clear hK K)
            have hk : Hid (Keeps w9 ((w9.alloc (.cells #[.int .u8 244, .int .u8 142] 5)).alloc (.cells #[.int .u8 142, .int .u8 244] 5))) := Keeps.al (Keeps.al (keeps_refl w9) _) _
            generalize ((w9.alloc (.cells #[.int .u8 244, .int .u8 142] 5)).alloc (.cells #[.int .u8 142, .int .u8 244] 5)) = wz at *
            generalize (Value.slice (some ⟨w9.heap.size + 1, 0, none⟩) 2 2) = s78
            generalize (Value.slice (some ⟨w9.heap.size, 0, none⟩) 2 2) = s82
            revert hk wz s78 s82
            exact T.out
          exact AllReady.nil
        exact AllReady.nil
      refine AllReady.cons rfl (fun K hK => ?_) ?_
      ·
        have cv := conv8 (w := (w9.alloc (.cells #[.int .u8 244, .int .u8 142] 5))) (rowAt_lit _ [244, 142] 2 2 rfl (by omega)) 0
        change (convert _ _ _).run _ (w9.alloc (.cells #[.int .u8 244, .int .u8 142] 5)) = .ok (.string ⟨#[244, 142]⟩) (w9.alloc (.cells #[.int .u8 244, .int .u8 142] 5)) at cv
        go_simp
        clear cv
        try (refine hK _ _ ?_; clear hK K)
        refine wpAny_ready (rs := [21]) (by kernel_rfl) (by simp) ?_
        refine AllReady.cons rfl (fun K hK => ?_) ?_
        ·
          go_simp
          try (refine hK _ _ ?_; clear hK K)
          refine wpAny_ready (rs := [22]) (by kernel_rfl) (by simp) ?_
          refine AllReady.cons rfl (fun K hK => ?_) ?_
          ·
            have cv := conv8 (w := ((w9.alloc (.cells #[.int .u8 244, .int .u8 142] 5)).alloc (.cells #[.int .u8 142, .int .u8 244] 5))) (SeqAt.there (rowAt_lit _ [142, 244] 2 2 rfl (by omega)) (by simp : _ = w9.heap.size + 1)) 0
            change (convert _ _ _).run _ ((w9.alloc (.cells #[.int .u8 244, .int .u8 142] 5)).alloc (.cells #[.int .u8 142, .int .u8 244] 5)) = .ok (.string ⟨#[142, 244]⟩) ((w9.alloc (.cells #[.int .u8 244, .int .u8 142] 5)).alloc (.cells #[.int .u8 142, .int .u8 244] 5)) at cv
            go_simp
            clear cv
            try (refine hK _ _ ?_; clear hK K)
            have hk : Hid (Keeps w9 ((w9.alloc (.cells #[.int .u8 244, .int .u8 142] 5)).alloc (.cells #[.int .u8 142, .int .u8 244] 5))) := Keeps.al (Keeps.al (keeps_refl w9) _) _
            generalize ((w9.alloc (.cells #[.int .u8 244, .int .u8 142] 5)).alloc (.cells #[.int .u8 142, .int .u8 244] 5)) = wz at *
            generalize (Value.slice (some ⟨w9.heap.size + 1, 0, none⟩) 2 2) = s78
            generalize (Value.slice (some ⟨w9.heap.size, 0, none⟩) 2 2) = s82
            revert hk wz s78 s82
            exact T.out
          exact AllReady.nil
        exact AllReady.nil
      exact AllReady.nil
    exact AllReady.nil
  intro wz hk s78 s82
  have hk := hk.out
  have HK : Hid (Keeps w wz) := HK.out.call hk (Nat.le_refl _)
  have HT := Lib.hid (Tab.keeps HT.out hk)
  have H2 := Lib.hid (MatAt.keeps H2.out hk)
  have H4 := Lib.hid (MatAt.keeps H4.out hk)
  have c30 := keeps_cell hk c30
  have c31 := keeps_cell hk c31
  have c32 := keeps_cell hk c32
  clear hk
  refine wpAny_ready (rs := [27]) (by kernel_rfl) (by simp) ?_
  refine AllReady.cons rfl (fun K hK => ?_) AllReady.nil
  go_simp
  try (refine hK _ _ ?_; clear hK K)
  refine wpAny_ready (rs := [28]) (by kernel_rfl) (by simp) ?_
  refine AllReady.cons rfl (fun K hK => ?_) AllReady.nil
  go_simp
  go_wp2_with fail
  refine Calls.mono (is_keeps _ _ exM [⟨#[1, 0]⟩, ⟨#[0, 1]⟩, ⟨#[142, 244]⟩, ⟨#[244, 142]⟩] _ (H2.out.al _) (textsAt_lit wz [⟨#[1, 0]⟩, ⟨#[0, 1]⟩, ⟨#[142, 244]⟩, ⟨#[244, 142]⟩] 4 4 rfl (by omega)) rfl) ?_
  rintro e wy ⟨rfl, hk⟩
  have hk : Keeps wz wy := Keeps.trans (Keeps.al (keeps_refl wz) _) hk
  have HK : Hid (Keeps w wy) := HK.out.call hk (Nat.le_refl _)
  try (refine hK _ _ ?_; clear hK K)
  have HT := Lib.hid (Tab.keeps HT.out hk)
  have H4 := Lib.hid (MatAt.keeps H4.out hk)
  have c30 := keeps_cell hk c30
  have c31 := keeps_cell hk c31
  have c32 := keeps_cell hk c32
  clear hk H2
  go_wp2_with fail
  try (refine hK _ _ ?_; clear hK K)
  refine wpAny_at 29 86 ((.bool true)) rfl (by kernel_rfl) (by kernel_rfl) (by kernel_rfl) (fun _ _ _ h => h) (by kernel_rfl) (fun w => by rfl) rfl ?_; (try simp only [List.setIfInBounds_toArray, List.set_cons_zero, List.set_cons_succ])
  refine wpAny_at 30 87 ((.bool true)) rfl (by kernel_rfl) (by kernel_rfl) (by kernel_rfl) (fun _ _ _ h => h) (by kernel_rfl) (fun w => by rfl) rfl ?_; (try simp only [List.setIfInBounds_toArray, List.set_cons_zero, List.set_cons_succ])
  refine wpAny_at 31 88 ((.int .i64 0)) rfl (by kernel_rfl) (by kernel_rfl) (by kernel_rfl) (fun _ _ _ h => h) (by kernel_rfl) (fun w => by rfl) rfl ?_; (try simp only [List.setIfInBounds_toArray, List.set_cons_zero, List.set_cons_succ])
  refine wpAny_at 32 89 ((.bool true)) rfl (by kernel_rfl) (by kernel_rfl) (by kernel_rfl) (fun _ _ _ h => h) (by kernel_rfl) (fun w => by rfl) rfl ?_; (try simp only [List.setIfInBounds_toArray, List.set_cons_zero, List.set_cons_succ])
  refine wpAny_at 33 90 ((.bool true)) rfl (by kernel_rfl) (by kernel_rfl) (by kernel_rfl) (fun _ _ _ h => h) (by kernel_rfl) (fun w => by rfl) rfl ?_; (try simp only [List.setIfInBounds_toArray, List.set_cons_zero, List.set_cons_succ])
  refine wpAny_at 34 91 ((.bool true)) rfl (by kernel_rfl) (by kernel_rfl) (by kernel_rfl) (fun _ _ _ h => h) (by kernel_rfl) (fun w => by rfl) rfl ?_; (try simp only [List.setIfInBounds_toArray, List.set_cons_zero, List.set_cons_succ])
  refine wpAny_at 35 92 ((.slice (some ⟨b3, o3, none⟩) 4 q3)) rfl (by kernel_rfl) (by kernel_rfl) (by kernel_rfl) (fun _ _ _ h => h) (by kernel_rfl) (fun w => by rfl) rfl ?_; (try simp only [List.setIfInBounds_toArray, List.set_cons_zero, List.set_cons_succ])
  refine wpAny_at 36 93 ((.int .i64 4)) rfl (by kernel_rfl) (by kernel_rfl) (by kernel_rfl) (fun _ _ _ h => h) (by kernel_rfl) (fun w => by go_simp) rfl ?_; (try simp only [List.setIfInBounds_toArray, List.set_cons_zero, List.set_cons_succ])
  refine wpAny_at 37 94 ((.bool true)) rfl (by kernel_rfl) (by kernel_rfl) (by kernel_rfl) (fun _ _ _ h => h) (by kernel_rfl) (fun w => by rfl) rfl ?_; (try simp only [List.setIfInBounds_toArray, List.set_cons_zero, List.set_cons_succ])
  refine wpAny_at 38 95 ((.bool true)) rfl (by kernel_rfl) (by kernel_rfl) (by kernel_rfl) (fun _ _ _ h => h) (by kernel_rfl) (fun w => by rfl) rfl ?_; (try simp only [List.setIfInBounds_toArray, List.set_cons_zero, List.set_cons_succ])
  refine wpAny_at 39 96 ((.bool true)) rfl (by kernel_rfl) (by kernel_rfl) (by kernel_rfl) (fun _ _ _ h => h) (by kernel_rfl) (fun w => by rfl) rfl ?_; (try simp only [List.setIfInBounds_toArray, List.set_cons_zero, List.set_cons_succ])
  refine wpAny_at 40 97 ((.slice (some ⟨b3, o3, none⟩) 4 q3)) rfl (by kernel_rfl) (by kernel_rfl) (by kernel_rfl) (fun _ _ _ h => h) (by kernel_rfl) (fun w => by rfl) rfl ?_; (try simp only [List.setIfInBounds_toArray, List.set_cons_zero, List.set_cons_succ])
  refine wpAny_at 41 98 ((.pointer (some ⟨b3, o3, none⟩))) rfl (by kernel_rfl) (by kernel_rfl) (by kernel_rfl) (fun _ _ _ h => h) (by kernel_rfl) (fun w => by go_simp) rfl ?_; (try simp only [List.setIfInBounds_toArray, List.set_cons_zero, List.set_cons_succ])
  refine wpAny_ready (rs := [42]) (by kernel_rfl) (by simp) ?_
  refine AllReady.cons rfl (fun K hK => ?_) AllReady.nil
  go_simp
  try (refine hK _ _ ?_; clear hK K)
  refine wpAny_at 43 100 ((.bool true)) rfl (by kernel_rfl) (by kernel_rfl) (by kernel_rfl) (fun _ _ _ h => h) (by kernel_rfl) (fun w => by rfl) rfl ?_; (try simp only [List.setIfInBounds_toArray, List.set_cons_zero, List.set_cons_succ])
  refine wpAny_at 44 101 ((.bool true)) rfl (by kernel_rfl) (by kernel_rfl) (by kernel_rfl) (fun _ _ _ h => h) (by kernel_rfl) (fun w => by rfl) rfl ?_; (try simp only [List.setIfInBounds_toArray, List.set_cons_zero, List.set_cons_succ])
  refine wpAny_at 45 102 ((.bool true)) rfl (by kernel_rfl) (by kernel_rfl) (by kernel_rfl) (fun _ _ _ h => h) (by kernel_rfl) (fun w => by rfl) rfl ?_; (try simp only [List.setIfInBounds_toArray, List.set_cons_zero, List.set_cons_succ])
  refine wpAny_at 46 103 ((.slice (some ⟨b3, o3, none⟩) 4 q3)) rfl (by kernel_rfl) (by kernel_rfl) (by kernel_rfl) (fun _ _ _ h => h) (by kernel_rfl) (fun w => by rfl) rfl ?_; (try simp only [List.setIfInBounds_toArray, List.set_cons_zero, List.set_cons_succ])
  refine wpAny_at 47 104 ((.pointer (some ⟨b3, o3 + 1, none⟩))) rfl (by kernel_rfl) (by kernel_rfl) (by kernel_rfl) (fun _ _ _ h => h) (by kernel_rfl) (fun w => by go_simp) rfl ?_; (try simp only [List.setIfInBounds_toArray, List.set_cons_zero, List.set_cons_succ])
  refine wpAny_ready (rs := [48]) (by kernel_rfl) (by simp) ?_
  refine AllReady.cons rfl (fun K hK => ?_) AllReady.nil
  go_simp
  try (refine hK _ _ ?_; clear hK K)
  refine wpAny_at 49 106 ((.bool true)) rfl (by kernel_rfl) (by kernel_rfl) (by kernel_rfl) (fun _ _ _ h => h) (by kernel_rfl) (fun w => by rfl) rfl ?_; (try simp only [List.setIfInBounds_toArray, List.set_cons_zero, List.set_cons_succ])
  refine wpAny_at 50 107 ((.bool true)) rfl (by kernel_rfl) (by kernel_rfl) (by kernel_rfl) (fun _ _ _ h => h) (by kernel_rfl) (fun w => by rfl) rfl ?_; (try simp only [List.setIfInBounds_toArray, List.set_cons_zero, List.set_cons_succ])
  refine wpAny_at 51 108 ((.bool true)) rfl (by kernel_rfl) (by kernel_rfl) (by kernel_rfl) (fun _ _ _ h => h) (by kernel_rfl) (fun w => by rfl) rfl ?_; (try simp only [List.setIfInBounds_toArray, List.set_cons_zero, List.set_cons_succ])
  refine wpAny_at 52 109 ((.slice (some ⟨b3, o3, none⟩) 4 q3)) rfl (by kernel_rfl) (by kernel_rfl) (by kernel_rfl) (fun _ _ _ h => h) (by kernel_rfl) (fun w => by rfl) rfl ?_; (try simp only [List.setIfInBounds_toArray, List.set_cons_zero, List.set_cons_succ])
  refine wpAny_at 55 112 ((.pointer (some ⟨tb, 0, none⟩))) rfl (by kernel_rfl) (by kernel_rfl) (by kernel_rfl) (fun _ _ _ h => h) (by kernel_rfl) (fun w => by rfl) rfl ?_; (try simp only [List.setIfInBounds_toArray, List.set_cons_zero, List.set_cons_succ])
  refine wpAny_at 56 113 ((.pointer (some ⟨tb, 0, none⟩))) rfl (by kernel_rfl) (by kernel_rfl) (by kernel_rfl) (fun _ _ _ h => h) (by kernel_rfl) (fun w => by rfl) rfl ?_; (try simp only [List.setIfInBounds_toArray, List.set_cons_zero, List.set_cons_succ])
  refine wpAny_at 57 114 ((.int .u8 142)) rfl (by kernel_rfl) (by kernel_rfl) (by kernel_rfl) (fun _ _ _ h => h) (by kernel_rfl) (fun w => by rfl) rfl ?_; (try simp only [List.setIfInBounds_toArray, List.set_cons_zero, List.set_cons_succ])
  refine wpAny_at 59 116 ((.pointer (some ⟨tb, 0, none⟩))) rfl (by kernel_rfl) (by kernel_rfl) (by kernel_rfl) (fun _ _ _ h => h) (by kernel_rfl) (fun w => by rfl) rfl ?_; (try simp only [List.setIfInBounds_toArray, List.set_cons_zero, List.set_cons_succ])
  refine wpAny_at 60 117 ((.int .u8 244)) rfl (by kernel_rfl) (by kernel_rfl) (by kernel_rfl) (fun _ _ _ h => h) (by kernel_rfl) (fun w => by rfl) rfl ?_; (try simp only [List.setIfInBounds_toArray, List.set_cons_zero, List.set_cons_succ])
  refine wpAny_at 53 110 ((.pointer (some ⟨b3, o3 + 2, none⟩))) rfl (by kernel_rfl) (by kernel_rfl) (by kernel_rfl) (fun _ _ _ h => h) (by kernel_rfl) (fun w => by go_simp) rfl ?_; (try simp only [List.setIfInBounds_toArray, List.set_cons_zero, List.set_cons_succ])
  apply share
  case h2 =>
    intro T
    refine wpAny_ready (rs := [54, 58]) (by kernel_rfl) (by simp) ?_
    refine AllReady.cons rfl (fun K hK => ?_) ?_
    ·
      go_simp
      try (refine hK _ _ ?_; clear hK K)
      refine wpAny_ready (rs := [58]) (by kernel_rfl) (by simp) ?_
      refine AllReady.cons rfl (fun K hK => ?_) ?_
      ·
        go_simp
        go_wp2_with fail
        refine Calls.mono (mul_25 tb wy HT.out) ?_
        rintro e w' ⟨rfl, m1, rfl⟩
        go_wp2_with fail
        try (refine hK _ _ ?_; clear hK K)
        have hc32 : (wy.drewN m1).cell? ⟨b3, o3 + 2, none⟩ = some (.int .u8 122) := c32
        refine wpAny_ready (rs := [61]) (by kernel_rfl) (by simp) ?_
        refine AllReady.cons rfl (fun K hK => ?_) ?_
        ·
          go_simp
          go_wp2_with fail
          refine Calls.mono (mul_37 tb (wy.drewN m1) HT.out) ?_
          rintro e w' ⟨rfl, m2, rfl⟩
          go_wp2_with fail
          try (refine hK _ _ ?_; clear hK K)
          have hc32 : (wy.drewN (m1 + m2)).cell? ⟨b3, o3 + 2, none⟩ = some (.int .u8 122) := c32
          refine wpAny_ready (rs := [62]) (by kernel_rfl) (by simp) ?_
          refine AllReady.cons rfl (fun K hK => ?_) ?_
          ·
            go_simp
            go_wp2_with fail
            refine Calls.mono (add_ex _ _) ?_
            rintro e w' ⟨rfl, rfl⟩
            go_wp2_with fail
            try (refine hK _ _ ?_; clear hK K)
            have HK : Hid (Keeps w (wy.drewN (m1 + m2))) := HK
            have H4 : Hid (MatAt (wy.drewN (m1 + m2)).heap v4 [[0, 1], [0, 1]]) := H4
            revert HK H4
            generalize (wy.drewN (m1 + m2)) = wx
            intro HK H4
            revert HK H4 wx
            exact T.out
          exact AllReady.nil
        exact AllReady.nil
      exact AllReady.nil
    refine AllReady.cons rfl (fun K hK => ?_) ?_
    ·
      go_simp
      go_wp2_with fail
      refine Calls.mono (mul_25 tb wy HT.out) ?_
      rintro e w' ⟨rfl, m3, rfl⟩
      go_wp2_with fail
      try (refine hK _ _ ?_; clear hK K)
      have hc32 : (wy.drewN m3).cell? ⟨b3, o3 + 2, none⟩ = some (.int .u8 122) := c32
      refine wpAny_ready (rs := [54, 61]) (by kernel_rfl) (by simp) ?_
      refine AllReady.cons rfl (fun K hK => ?_) ?_
      ·
        go_simp
        try (refine hK _ _ ?_; clear hK K)
        refine wpAny_ready (rs := [61]) (by kernel_rfl) (by simp) ?_
        refine AllReady.cons rfl (fun K hK => ?_) ?_
        ·
          go_simp
          go_wp2_with fail
          refine Calls.mono (mul_37 tb (wy.drewN m3) HT.out) ?_
          rintro e w' ⟨rfl, m4, rfl⟩
          go_wp2_with fail
          try (refine hK _ _ ?_; clear hK K)
          have hc32 : (wy.drewN (m3 + m4)).cell? ⟨b3, o3 + 2, none⟩ = some (.int .u8 122) := c32
          refine wpAny_ready (rs := [62]) (by kernel_rfl) (by simp) ?_
          refine AllReady.cons rfl (fun K hK => ?_) ?_
          ·
            go_simp
            go_wp2_with fail
            refine Calls.mono (add_ex _ _) ?_
            rintro e w' ⟨rfl, rfl⟩
            go_wp2_with fail
            try (refine hK _ _ ?_; clear hK K)
            have HK : Hid (Keeps w (wy.drewN (m3 + m4))) := HK
            have H4 : Hid (MatAt (wy.drewN (m3 + m4)).heap v4 [[0, 1], [0, 1]]) := H4
            revert HK H4
            generalize (wy.drewN (m3 + m4)) = wx
            intro HK H4
            revert HK H4 wx
            exact T.out
          exact AllReady.nil
        exact AllReady.nil
      refine AllReady.cons rfl (fun K hK => ?_) ?_
      ·
        go_simp
        go_wp2_with fail
        refine Calls.mono (mul_37 tb (wy.drewN m3) HT.out) ?_
        rintro e w' ⟨rfl, m5, rfl⟩
        go_wp2_with fail
        try (refine hK _ _ ?_; clear hK K)
        have hc32 : (wy.drewN (m3 + m5)).cell? ⟨b3, o3 + 2, none⟩ = some (.int .u8 122) := c32
        refine wpAny_ready (rs := [54, 62]) (by kernel_rfl) (by simp) ?_
        refine AllReady.cons rfl (fun K hK => ?_) ?_
        ·
          go_simp
          try (refine hK _ _ ?_; clear hK K)
          refine wpAny_ready (rs := [62]) (by kernel_rfl) (by simp) ?_
          refine AllReady.cons rfl (fun K hK => ?_) ?_
          ·
            go_simp
            go_wp2_with fail
            refine Calls.mono (add_ex _ _) ?_
            rintro e w' ⟨rfl, rfl⟩
            go_wp2_with fail
            try (refine hK _ _ ?_; clear hK K)
            have HK : Hid (Keeps w (wy.drewN (m3 + m5))) := HK
            have H4 : Hid (MatAt (wy.drewN (m3 + m5)).heap v4 [[0, 1], [0, 1]]) := H4
            revert HK H4
            generalize (wy.drewN (m3 + m5)) = wx
            intro HK H4
            revert HK H4 wx
            exact T.out
          exact AllReady.nil
        refine AllReady.cons rfl (fun K hK => ?_) ?_
        ·
          go_simp
          go_wp2_with fail
          refine Calls.mono (add_ex _ _) ?_
          rintro e w' ⟨rfl, rfl⟩
          go_wp2_with fail
          try (refine hK _ _ ?_; clear hK K)
          refine wpAny_ready (rs := [54]) (by kernel_rfl) (by simp) ?_
          refine AllReady.cons rfl (fun K hK => ?_) ?_
          ·
            go_simp
            try (refine hK _ _ ?_; clear hK K)
            have HK : Hid (Keeps w (wy.drewN (m3 + m5))) := HK
            have H4 : Hid (MatAt (wy.drewN (m3 + m5)).heap v4 [[0, 1], [0, 1]]) := H4
            revert HK H4
            generalize (wy.drewN (m3 + m5)) = wx
            intro HK H4
            revert HK H4 wx
            exact T.out
          exact AllReady.nil
        exact AllReady.nil
      exact AllReady.nil
    exact AllReady.nil
  intro wx HK H4
  refine wpAny_at 63 120 ((.bool true)) rfl (by kernel_rfl) (by kernel_rfl) (by kernel_rfl) (fun _ _ _ h => h) (by kernel_rfl) (fun w => by rfl) rfl ?_; (try simp only [List.setIfInBounds_toArray, List.set_cons_zero, List.set_cons_succ])
  refine wpAny_at 64 121 ((.bool true)) rfl (by kernel_rfl) (by kernel_rfl) (by kernel_rfl) (fun _ _ _ h => h) (by kernel_rfl) (fun w => by rfl) rfl ?_; (try simp only [List.setIfInBounds_toArray, List.set_cons_zero, List.set_cons_succ])
  refine wpAny_at 65 122 ((.bool true)) rfl (by kernel_rfl) (by kernel_rfl) (by kernel_rfl) (fun _ _ _ h => h) (by kernel_rfl) (fun w => by rfl) rfl ?_; (try simp only [List.setIfInBounds_toArray, List.set_cons_zero, List.set_cons_succ])
  refine wpAny_at 66 123 ((.int .i64 0)) rfl (by kernel_rfl) (by kernel_rfl) (by kernel_rfl) (fun _ _ _ h => h) (by kernel_rfl) (fun w => by rfl) rfl ?_; (try simp only [List.setIfInBounds_toArray, List.set_cons_zero, List.set_cons_succ])
  refine wpAny_at 67 124 ((.bool true)) rfl (by kernel_rfl) (by kernel_rfl) (by kernel_rfl) (fun _ _ _ h => h) (by kernel_rfl) (fun w => by rfl) rfl ?_; (try simp only [List.setIfInBounds_toArray, List.set_cons_zero, List.set_cons_succ])
  refine wpAny_at 68 125 ((.bool true)) rfl (by kernel_rfl) (by kernel_rfl) (by kernel_rfl) (fun _ _ _ h => h) (by kernel_rfl) (fun w => by rfl) rfl ?_; (try simp only [List.setIfInBounds_toArray, List.set_cons_zero, List.set_cons_succ])
  refine wpAny_at 69 126 ((.bool true)) rfl (by kernel_rfl) (by kernel_rfl) (by kernel_rfl) (fun _ _ _ h => h) (by kernel_rfl) (fun w => by rfl) rfl ?_; (try simp only [List.setIfInBounds_toArray, List.set_cons_zero, List.set_cons_succ])
  refine wpAny_at 70 127 ((v4)) rfl (by kernel_rfl) (by kernel_rfl) (by kernel_rfl) (fun _ _ _ h => h) (by kernel_rfl) (fun w => by rfl) rfl ?_; (try simp only [List.setIfInBounds_toArray, List.set_cons_zero, List.set_cons_succ])
  refine wpAny_ready (rs := [71]) (by kernel_rfl) (by simp) ?_
  refine AllReady.cons rfl (fun K hK => ?_) AllReady.nil
  go_simp
  try (refine hK _ _ ?_; clear hK K)
  refine wpAny_ready (rs := [72]) (by kernel_rfl) (by simp) ?_
  refine AllReady.cons rfl (fun K hK => ?_) AllReady.nil
  go_simp
  go_wp2_with fail
  refine Calls.mono (is_keeps _ _ [[0, 1], [0, 1]] [⟨#[0, 1]⟩, ⟨#[0, 1]⟩] _ (H4.out.al _) (textsAt_lit wx [⟨#[0, 1]⟩, ⟨#[0, 1]⟩] 2 2 rfl (by omega)) rfl) ?_
  rintro e wv ⟨rfl, hk⟩
  have hk : Keeps wx wv := Keeps.trans (Keeps.al (keeps_refl wx) _) hk
  have HK : Hid (Keeps w wv) := HK.out.call hk (Nat.le_refl _)
  clear hk
  go_wp2_with fail
  try (refine hK _ _ ?_; clear hK K)
  refine wpAny_at 73 130 ((.bool true)) rfl (by kernel_rfl) (by kernel_rfl) (by kernel_rfl) (fun _ _ _ h => h) (by kernel_rfl) (fun w => by rfl) rfl ?_; (try simp only [List.setIfInBounds_toArray, List.set_cons_zero, List.set_cons_succ])
  refine wpAny_at 74 131 ((.bool true)) rfl (by kernel_rfl) (by kernel_rfl) (by kernel_rfl) (fun _ _ _ h => h) (by kernel_rfl) (fun w => by rfl) rfl ?_; (try simp only [List.setIfInBounds_toArray, List.set_cons_zero, List.set_cons_succ])
  refine wpAny_at 75 132 ((.int .i64 4)) rfl (by kernel_rfl) (by kernel_rfl) (by kernel_rfl) (fun _ _ _ h => h) (by kernel_rfl) (fun w => by rfl) rfl ?_; (try simp only [List.setIfInBounds_toArray, List.set_cons_zero, List.set_cons_succ])
  refine wpAny_at 76 133 ((.bool true)) rfl (by kernel_rfl) (by kernel_rfl) (by kernel_rfl) (fun _ _ _ h => h) (by kernel_rfl) (fun w => by rfl) rfl ?_; (try simp only [List.setIfInBounds_toArray, List.set_cons_zero, List.set_cons_succ])
  refine wpAny_at 77 134 ((.bool true)) rfl (by kernel_rfl) (by kernel_rfl) (by kernel_rfl) (fun _ _ _ h => h) (by kernel_rfl) (fun w => by rfl) rfl ?_; (try simp only [List.setIfInBounds_toArray, List.set_cons_zero, List.set_cons_succ])
  refine wpAny_ready (rs := [78]) (by kernel_rfl) (by simp) ?_
  refine AllReady.cons rfl (fun K hK => ?_) AllReady.nil
  go_simp
  try (refine hK _ _ ?_; clear hK K)
  refine wpAny_done (by kernel_rfl) ?_ _
  go_wp2
  go_ret
  exact ⟨rfl, HK.out⟩
end Go.Proofs.Ytojdodbedemkoaa
