/- The walks of package frame's number, of law11's of. -/
import Derived.Test.YtcapalofocmmoaaFrMay
import Derived.Test.YtcapalofocmmoaaSExam
namespace Go.Proofs.Ytcapalofocmmoaa
open Go.RowKit
/-- A number's bytes, so many. -/
def numAt (n m j : Nat) : UInt8 := UInt8.ofNat (n / 2 ^ (8 * (m - 1 - j)))
def numB (n m : Nat) : List UInt8 := (List.range m).map (numAt n m)
theorem numB_four (n : Nat) : numB n 4 = SH.four n := by
  show [UInt8.ofNat (n / 16777216), UInt8.ofNat (n / 65536), UInt8.ofNat (n / 256), UInt8.ofNat (n / 1)] = _
  rw [Nat.div_one]; rfl
theorem numB_one (n : Nat) : numB n 1 = [UInt8.ofNat n] := by
  show [UInt8.ofNat (n / 1)] = _
  rw [Nat.div_one]
theorem numB_length (n m : Nat) : (numB n m).length = m := by unfold numB; simp
theorem num_val (n m k : Nat) : (n : Int) / 2 ^ (8 * (m - 1 - k)) % 256 = ((numAt n m k).toNat : Int) := by
  unfold numAt
  rw [UInt8.toNat_ofNat']
  have e : (n : Int) / 2 ^ (8 * (m - 1 - k)) = ((n / 2 ^ (8 * (m - 1 - k)) : Nat) : Int) := by
    rw [Int.natCast_ediv]; simp
  rw [e]; omega
set_option maxRecDepth 100000 in
set_option maxHeartbeats 4000000 in
theorem frnum_any (n m : Nat) (w : World) (hm : m = 1 ∨ m = 4) (hn : n ≤ 140737488355328) : Calls Try.prog 51 #[.int .i64 (n : Int), .int .i64 (m : Int)] w fun e w' => e = .returned (.string (strB (numB n m))) ∧ Keeps w w' := by
  have hm4 : m ≤ 4 := by omega
  have hmk := mk_brow m (by omega) w
  clear hm
  go_enter Try.func51, Try.ntmps51
  go_wp2_with fail
  clear hmk
  go_loopw [11] (fun i wr => ∃ k : Nat, k ≤ m ∧ i = .int .i64 k ∧ Hid (BRow wr.heap w.heap.size m (fun j => if j < k then numAt n m j else 0)) ∧ Hid (Keeps w wr)) (fun i _ => m - (intOf i).toNat)
  case atStart => exact ⟨0, by omega, rfl, (BRow.new w m).congr fun j _ => by (try dsimp only); rw [if_neg (by omega)], kal _ _⟩
  case round =>
    obtain ⟨k, hk, rfl, hR, hK⟩ := hrel
    by_cases hlt : k < m
    · have i1 : (k : Int) < (m : Int) := by omega
      have i0 : (0 : Int) ≤ (k : Int) := by omega
      obtain ⟨f1, c1⟩ := hR.out.2 k hlt
      rw [← froz_of] at f1
      rw [← cell_of] at c1
      dsimp only at c1
      have HV := Lib.hid (num_val n m k)
      have x0 : 0 ≤ 8 * ((m : Int) - 1 - (k : Int)) := by omega
      have x1 : (8 * ((m : Int) - 1 - (k : Int))).toNat = 8 * (m - 1 - k) := by omega
      have x2 : IntKind.i64.wrap ((m : Int) - 1) = (m : Int) - 1 := IntWalk.i64_in _ (by omega)
      have x3 : IntKind.i64.wrap ((m : Int) - 1 - (k : Int)) = (m : Int) - 1 - (k : Int) := IntWalk.i64_in _ (by omega)
      have x4 : IntKind.i64.wrap (8 * ((m : Int) - 1 - (k : Int))) = 8 * ((m : Int) - 1 - (k : Int)) := IntWalk.i64_in _ (by omega)
      have HR2 : Hid (BRow (wr.setCell ⟨w.heap.size, k, none⟩ (.int .u8 ((numAt n m k).toNat : Int))).heap w.heap.size m (fun j => if j < k + 1 then numAt n m j else 0)) := (hR.out.set hlt (numAt n m k)).congr fun j _ => by
        (try dsimp only)
        by_cases e : j = k
        · subst e; rw [if_pos rfl, if_pos (by omega)]
        · rw [if_neg e]
          by_cases e2 : j < k
          · rw [if_pos e2, if_pos (by omega)]
          · rw [if_neg e2, if_neg (by omega)]
      have HK2 : Hid (Keeps w (wr.setCell ⟨w.heap.size, k, none⟩ (.int .u8 ((numAt n m k).toNat : Int)))) := hK.out.setCell (p := ⟨w.heap.size, k, none⟩) (Nat.le_refl _) _
      go_wp2
      rw [HV.out]
      exact ⟨⟨k + 1, by omega, by go_num, HR2, HK2⟩, by simp [intOf]; omega⟩
    · obtain rfl : k = m := by omega
      have HRA : Hid (RowAt wr.heap (.slice (some ⟨w.heap.size, 0, none⟩) k k) (numB n k)) := by
        have h := (hR.out.congr (g := numAt n k) fun j hj => by (try dsimp only); rw [if_pos hj]).at_ (by omega)
        exact h
      have hcv := conv_row (P := Try.prog) (src := 59) (dst := 9) (e := 5) Try.underlying59 (by kernel_rfl) Try.underlying9 HRA.out
      go_wp2_with fail
      go_ret
      exact ⟨rfl, hK.out⟩
theorem frof_any (ep gen k n : Int) (b : ByteArray) (w : World) : Calls Try.prog 36 #[.int .i64 ep, .int .i64 gen, .int .i64 k, .int .i64 n, .string b] w fun e w' => e = .returned (frV ep gen k n b) ∧ Keeps w w' := by
  go_enter Try.func36, Try.ntmps36
  go_wp2_with fail
  exact bodyPost_ret (v := .agg #[.int .i64 ep, .int .i64 gen, .int .i64 k, .int .i64 n, .string b]) (results_cell_row rfl _ _ w.heap.size 47 (#[.int .i64 ep, .int .i64 gen, .int .i64 k, .int .i64 n, .string b] : Array Value) (0, 0) _ rfl (heap_alloc_new w _) Try.underlying47 rfl (by kernel_rfl)) rfl ⟨rfl, kal _ _⟩
end Go.Proofs.Ytcapalofocmmoaa
