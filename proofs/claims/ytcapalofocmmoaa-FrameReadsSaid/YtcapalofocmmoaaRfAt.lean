/- The walk of the reference's at: a number of four bytes. -/
import Derived.Test.YtcapalofocmmoaaRfMake
import Derived.Test.YtcapalofocmmoaaFrRead
import Derived.BigQuiet
namespace Go.Proofs.Ytcapalofocmmoaa
open Go.RowKit
def byF (b : List UInt8) (i : Nat) : Nat := (b.getD i 0).toNat
theorem byF_lt (b : List UInt8) (i : Nat) : byF b i < 256 := UInt8.toNat_lt _
def atF (b : List UInt8) (i : Nat) : Nat := byF b i * 16777216 + byF b (i + 1) * 65536 + byF b (i + 2) * 256 + byF b (i + 3)
theorem atF_lt (b : List UInt8) (i : Nat) : atF b i < 4294967296 := by
  have h0 := byF_lt b i
  have h1 := byF_lt b (i + 1)
  have h2 := byF_lt b (i + 2)
  have h3 := byF_lt b (i + 3)
  unfold atF
  omega
set_option maxRecDepth 100000 in
theorem run_byF (s : ByteArray) (i : Nat) (h : i < s.size) (w : World) : (Instr.index 9 (.string s) (.int .i64 (i : Int))).run Try.prog w = .ok (.int .u8 (byF s.data.toList i : Int)) w := by
  have hb : ((i : Int).toNat) = i := by omega
  have hl : i < s.data.toList.length := by rw [data_size]; exact h
  rw [run_index_string _ _ _ _ _ rfl, dif_pos ⟨by omega, by omega⟩]
  have e : (s[(i : Int).toNat]'(by omega)).toNat = byF s.data.toList i := by
    unfold byF
    rw [List.getD_eq_getElem?_getD, List.getElem?_eq_getElem hl]; rfl
  rw [e]
theorem at_wrap (a b c d : Nat) (ha : a < 256) (hb : b < 256) (hc : c < 256) (hd : d < 256) :
    wrap64 (wrap64 (wrap64 (wrap64 (wrap64 (a : Int) * 16777216) + wrap64 (wrap64 (b : Int) * 65536)) + wrap64 (wrap64 (c : Int) * 256)) + wrap64 (d : Int)) = ((a * 16777216 + b * 65536 + c * 256 + d : Nat) : Int) := by
  have w1 : ∀ z : Int, 0 ≤ z → z ≤ 4294967296 → wrap64 z = z := fun z h1 h2 => by unfold wrap64; omega
  rw [w1 a (by omega) (by omega), w1 b (by omega) (by omega), w1 c (by omega) (by omega), w1 d (by omega) (by omega)]
  rw [w1 ((a : Int) * 16777216) (by omega) (by omega), w1 ((b : Int) * 65536) (by omega) (by omega), w1 ((c : Int) * 256) (by omega) (by omega)]
  rw [w1 ((a : Int) * 16777216 + (b : Int) * 65536) (by omega) (by omega), w1 ((a : Int) * 16777216 + (b : Int) * 65536 + (c : Int) * 256) (by omega) (by omega), w1 _ (by omega) (by omega)]
  omega
set_option maxRecDepth 100000 in
set_option maxHeartbeats 4000000 in
theorem rfat_four (s : ByteArray) (w : World) (h : 50 ≤ s.size) : Calls Try.prog 49 #[.string s, .int .i64 4] w fun e w' => e = .returned (.int .i64 (atF s.data.toList 4 : Int)) ∧ Keeps w w' := by
  have r4 : ∀ wx : World, (Instr.index 9 (.string s) (.int .i64 4)).run Try.prog wx = .ok (.int .u8 (byF s.data.toList 4 : Int)) wx := run_byF s 4 (by omega)
  have r5 : ∀ wx : World, (Instr.index 9 (.string s) (.int .i64 5)).run Try.prog wx = .ok (.int .u8 (byF s.data.toList 5 : Int)) wx := run_byF s 5 (by omega)
  have r6 : ∀ wx : World, (Instr.index 9 (.string s) (.int .i64 6)).run Try.prog wx = .ok (.int .u8 (byF s.data.toList 6 : Int)) wx := run_byF s 6 (by omega)
  have r7 : ∀ wx : World, (Instr.index 9 (.string s) (.int .i64 7)).run Try.prog wx = .ok (.int .u8 (byF s.data.toList 7 : Int)) wx := run_byF s 7 (by omega)
  have HV := Lib.hid (at_wrap _ _ _ _ (byF_lt s.data.toList 4) (byF_lt s.data.toList 5) (byF_lt s.data.toList 6) (byF_lt s.data.toList 7))
  have HE : Hid (atF s.data.toList 4 = byF s.data.toList 4 * 16777216 + byF s.data.toList 5 * 65536 + byF s.data.toList 6 * 256 + byF s.data.toList 7) := rfl
  rw [← HE.out] at HV
  clear HE h
  generalize byF s.data.toList 4 = x4 at *
  generalize byF s.data.toList 5 = x5 at *
  generalize byF s.data.toList 6 = x6 at *
  generalize byF s.data.toList 7 = x7 at *
  generalize atF s.data.toList 4 = V at *
  go_enter Try.func49, Try.ntmps49
  go_wp2_with fail
  go_quiet (fail)
  go_wp2_with fail
  go_ret
  exact ⟨by rw [← HV.out]; rfl, keeps_refl _⟩
set_option maxRecDepth 100000 in
set_option maxHeartbeats 4000000 in
theorem rfat_eight (s : ByteArray) (w : World) (h : 50 ≤ s.size) : Calls Try.prog 49 #[.string s, .int .i64 8] w fun e w' => e = .returned (.int .i64 (atF s.data.toList 8 : Int)) ∧ Keeps w w' := by
  have r4 : ∀ wx : World, (Instr.index 9 (.string s) (.int .i64 8)).run Try.prog wx = .ok (.int .u8 (byF s.data.toList 8 : Int)) wx := run_byF s 8 (by omega)
  have r5 : ∀ wx : World, (Instr.index 9 (.string s) (.int .i64 9)).run Try.prog wx = .ok (.int .u8 (byF s.data.toList 9 : Int)) wx := run_byF s 9 (by omega)
  have r6 : ∀ wx : World, (Instr.index 9 (.string s) (.int .i64 10)).run Try.prog wx = .ok (.int .u8 (byF s.data.toList 10 : Int)) wx := run_byF s 10 (by omega)
  have r7 : ∀ wx : World, (Instr.index 9 (.string s) (.int .i64 11)).run Try.prog wx = .ok (.int .u8 (byF s.data.toList 11 : Int)) wx := run_byF s 11 (by omega)
  have HV := Lib.hid (at_wrap _ _ _ _ (byF_lt s.data.toList 8) (byF_lt s.data.toList 9) (byF_lt s.data.toList 10) (byF_lt s.data.toList 11))
  have HE : Hid (atF s.data.toList 8 = byF s.data.toList 8 * 16777216 + byF s.data.toList 9 * 65536 + byF s.data.toList 10 * 256 + byF s.data.toList 11) := rfl
  rw [← HE.out] at HV
  clear HE h
  generalize byF s.data.toList 8 = x4 at *
  generalize byF s.data.toList 9 = x5 at *
  generalize byF s.data.toList 10 = x6 at *
  generalize byF s.data.toList 11 = x7 at *
  generalize atF s.data.toList 8 = V at *
  go_enter Try.func49, Try.ntmps49
  go_wp2_with fail
  go_quiet (fail)
  go_wp2_with fail
  go_ret
  exact ⟨by rw [← HV.out]; rfl, keeps_refl _⟩
end Go.Proofs.Ytcapalofocmmoaa
