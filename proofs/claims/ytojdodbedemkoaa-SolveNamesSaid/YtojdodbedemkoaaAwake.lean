/- The walk of the laws' own awakening: closed examples. -/
import Derived.Test.YtojdodbedemkoaaClosed04
import Derived.Test.YtojdodbedemkoaaSolSolve
import Derived.Test.YtojdodbedemkoaaSolRef
import Derived.Test.YtojdodbedemkoaaLit
import Derived.Deep.DrawnRows
import Derived.Test.YtojdodbedemkoaaRegion
import Derived.Test.YtojdodbedemkoaaLaw03a
namespace Go.Proofs.Ytojdodbedemkoaa
open Go.RowKit
attribute [local go_sem ↓] Go.wp_at_zero Go.wp_at_succ
theorem turn_e1 (va : Value) (w : World) (ha : MatAt w.heap va [[1, 1], [0, 1]]) : Calls Try.prog 39 #[va] w (GiveMat w ([[1, 1], [0, 1]], 0)) := ex_turn1 ▸ turn_any va _ w ha
theorem turn_e2 (va : Value) (w : World) (ha : MatAt w.heap va [[1, 1], [1, 1]]) : Calls Try.prog 39 #[va] w (GiveMat w ([], 5)) := ex_turn2 ▸ turn_any va _ w ha
theorem turn_e3 (va : Value) (w : World) (ha : MatAt w.heap va [[2]]) : Calls Try.prog 39 #[va] w (GiveMat w ([[142]], 0)) := ex_turn3 ▸ turn_any va _ w ha
theorem rank_e (va : Value) (w : World) (ha : MatAt w.heap va [[1, 1], [1, 1]]) : Calls Try.prog 41 #[va] w (GiveInt w (1, 0)) := ex_rank ▸ rank_any va _ w ha
theorem solve_e (va vb : Value) (w : World) (ha : MatAt w.heap va [[1, 1], [0, 1]]) (hb : RowAt w.heap vb [3, 1]) : Calls Try.prog 45 #[va, vb] w (GiveRow w ([2, 1], 0)) := ex_solve ▸ solve_any va vb _ _ w ha hb
theorem same04_yes (va vb : Value) (m : List (List UInt8)) (w : World) (ha : MatAt w.heap va m) (hb : MatAt w.heap vb m) :
    Calls Try.prog 42 #[va, vb] w fun e w' => e = .returned (.bool true) ∧ Keeps w w' := by
  refine (same04_any va vb m m w ha hb).mono ?_
  rintro e w' ⟨rfl, n, rfl⟩
  exact ⟨by rw [decide_eq_true rfl], keeps_refl w⟩
theorem mat2_lit (w : World) (a b : List UInt8) (n k : Nat) (hn : a.length = n) (hk : b.length = k) (h1 : n ≤ 9223372036854775807) (h2 : k ≤ 9223372036854775807) :
    MatAt (((w.alloc (.cells ⟨bytesV a⟩ 5)).alloc (.cells ⟨bytesV b⟩ 5)).alloc (.cells #[.slice (some ⟨w.heap.size, 0, none⟩) n n, .slice (some ⟨w.heap.size + 1, 0, none⟩) k k] 33)).heap (.slice (some ⟨w.heap.size + 1 + 1, 0, none⟩) 2 2) [a, b] :=
  SeqAt.there (matAt_lit _ [_, _] [a, b] 2 2 rfl (by omega) rfl (fun i hi => match i, hi with
    | 0, _ => RowAt.al (rowAt_lit w a n n hn h1) _
    | 1, _ => SeqAt.there (rowAt_lit _ b k k hk h2) (by simp))) (by simp)
theorem mat1_lit (w : World) (a : List UInt8) (n : Nat) (hn : a.length = n) (h1 : n ≤ 9223372036854775807) :
    MatAt ((w.alloc (.cells ⟨bytesV a⟩ 5)).alloc (.cells #[.slice (some ⟨w.heap.size, 0, none⟩) n n] 33)).heap (.slice (some ⟨w.heap.size + 1, 0, none⟩) 1 1) [a] :=
  SeqAt.there (matAt_lit _ [_] [a] 1 1 rfl (by omega) rfl (fun i hi => match i, hi with
    | 0, _ => rowAt_lit w a n n hn h1)) (by simp)
theorem share4 {p q : Prop} (h1 : p) (h2 : Hid p → q) : q := h2 (Lib.hid h1)
set_option maxRecDepth 100000 in
set_option maxHeartbeats 4000000 in
theorem awake_any (w : World) : Calls Try.prog 38 #[] w fun e w' => e = .returned (.bool true) ∧ Keeps w w' := by
  go_enter Try.func38, Try.ntmps38
  go_wp2_with fail
  refine Calls.mono (turn_e1 _ _ (mat2_lit w [1, 1] [0, 1] 2 2 rfl rfl (by omega) (by omega))) ?_
  rintro e w1 ⟨v1, rfl, hm, hk⟩
  have HK : Hid (Keeps w w1) := Keeps.trans (Keeps.al (Keeps.al (Keeps.al (keeps_refl w) _) _) _) hk
  have H1 := Lib.hid hm.at_
  clear hm hk
  go_wp2_with fail
  refine Calls.mono (turn_e2 _ _ (mat2_lit w1 [1, 1] [1, 1] 2 2 rfl rfl (by omega) (by omega))) ?_
  rintro e w2 ⟨v2, rfl, hm, hk⟩
  have hk : Keeps w1 w2 := Keeps.trans (Keeps.al (Keeps.al (Keeps.al (keeps_refl w1) _) _) _) hk
  have HK : Hid (Keeps w w2) := HK.out.call hk (Nat.le_refl _)
  have H1 := Lib.hid (MatAt.keeps H1.out hk)
  clear hm hk
  go_wp2_with fail
  refine Calls.mono (rank_e _ _ (mat2_lit w2 [1, 1] [1, 1] 2 2 rfl rfl (by omega) (by omega))) ?_
  rintro e w3 ⟨rfl, hk⟩
  have hk : Keeps w2 w3 := Keeps.trans (Keeps.al (Keeps.al (Keeps.al (keeps_refl w2) _) _) _) hk
  have HK : Hid (Keeps w w3) := HK.out.call hk (Nat.le_refl _)
  have H1 := Lib.hid (MatAt.keeps H1.out hk)
  clear hk
  go_wp2_with fail
  refine Calls.mono (turn_e3 _ _ (mat1_lit w3 [2] 1 rfl (by omega))) ?_
  rintro e w4 ⟨v7, rfl, hm, hk⟩
  have hk : Keeps w3 w4 := Keeps.trans (Keeps.al (Keeps.al (keeps_refl w3) _) _) hk
  have HK : Hid (Keeps w w4) := HK.out.call hk (Nat.le_refl _)
  have H1 := Lib.hid (MatAt.keeps H1.out hk)
  have H7 := Lib.hid hm.at_
  clear hm hk
  go_wp2_with fail
  refine Calls.mono (solve_e _ _ _ (MatAt.al (mat2_lit w4 [1, 1] [0, 1] 2 2 rfl rfl (by omega) (by omega)) _) (SeqAt.there (rowAt_lit _ [3, 1] 2 2 rfl (by omega)) (by simp))) ?_
  rintro e w5 ⟨v9, rfl, hm, hk⟩
  have hk : Keeps w4 w5 := Keeps.trans (Keeps.al (Keeps.al (Keeps.al (Keeps.al (keeps_refl w4) _) _) _) _) hk
  have HK : Hid (Keeps w w5) := HK.out.call hk (Nat.le_refl _)
  have H1 := Lib.hid (MatAt.keeps H1.out hk)
  have H7 := Lib.hid (MatAt.keeps H7.out hk)
  have H9 := Lib.hid (SeqIn.at_ hm)
  clear hm hk
  go_wp2_with fail
  refine Calls.mono (same04_yes _ _ [[1, 1], [0, 1]] _ (((H1.out.al _).al _).al _) (mat2_lit w5 [1, 1] [0, 1] 2 2 rfl rfl (by omega) (by omega))) ?_
  rintro e w6 ⟨rfl, hk⟩
  have hk : Keeps w5 w6 := Keeps.trans (Keeps.al (Keeps.al (Keeps.al (keeps_refl w5) _) _) _) hk
  have HK : Hid (Keeps w w6) := HK.out.call hk (Nat.le_refl _)
  have H7 := Lib.hid (MatAt.keeps H7.out hk)
  have H9 := Lib.hid (SeqAt.keeps H9.out hk)
  clear hk H1
  go_wp2_with fail
  refine Calls.mono (same04_yes _ _ [[142]] _ ((H7.out.al _).al _) (mat1_lit w6 [142] 1 rfl (by omega))) ?_
  rintro e w7 ⟨rfl, hk⟩
  have hk : Keeps w6 w7 := Keeps.trans (Keeps.al (Keeps.al (keeps_refl w6) _) _) hk
  have HK : Hid (Keeps w w7) := HK.out.call hk (Nat.le_refl _)
  have H9 := Lib.hid (SeqAt.keeps H9.out hk)
  clear hk H7
  have cv := conv8 (w := w7) H9.out 0
  change (convert _ _ _).run _ w7 = .ok (.string ⟨#[2, 1]⟩) w7 at cv
  go_wp2
  go_ret
  exact ⟨rfl, HK.out⟩
end Go.Proofs.Ytojdodbedemkoaa
