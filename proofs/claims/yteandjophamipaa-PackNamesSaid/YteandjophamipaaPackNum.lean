/- The walks of the closure that writes a number's two bytes, and of the document's number. -/
import Derived.Test.YteandjophamipaaPackSpec
import Derived.Test.YteandjophamipaaBuild
namespace Go.Proofs.Yteandjophamipaa
open Go.RowKit
theorem byte_hi (n : Nat) : (n : Int) / 256 % 256 = ((UInt8.ofNat (n / 256)).toNat : Int) := by
  rw [UInt8.toNat_ofNat']; omega
theorem byte_lo (n : Nat) : (n : Int) % 256 = ((UInt8.ofNat n).toNat : Int) := by
  rw [UInt8.toNat_ofNat']; omega
theorem wbyte_e (B b : Nat) (l : List UInt8) (x : UInt8) (c : Int) (w : World) (h : Bld B b l w) (hlen : l.length + 1 ≤ 140737488355328) (hBw : B ≤ w.heap.size) (hc : c = (x.toNat : Int)) :
    Calls Try.prog 36 #[.pointer (some ⟨b, 0, none⟩), .int .u8 c] w fun e w' => e = .returned .nilIface ∧ Bld B b (l ++ [x]) w' ∧ BKept B b w w' := by
  subst hc; exact wbyte_any B b l x w h hlen hBw
set_option maxRecDepth 100000 in
set_option maxHeartbeats 1000000 in
theorem pnum_any (B b n : Nat) (l : List UInt8) (w : World) (h : Bld B b l w) (hl : l.length ≤ 1048576) (hB : B ≤ w.heap.size) :
    Calls Try.prog 35 #[.int .i64 (n : Int), .pointer (some ⟨b, 0, none⟩)] w fun e w' => e = .returned (.tuple #[]) ∧ Bld B b (l ++ num2 n) w' ∧ BKept B b w w' := by
  have H := Lib.hid h
  clear h
  go_enter Try.func35, Try.ntmps35
  go_wp2_with fail
  refine Calls.mono (wbyte_e B b l (UInt8.ofNat (n / 256)) _ _ H.out (by omega) hB (byte_hi n)) ?_
  rintro e w1 ⟨rfl, h1, k1⟩
  have H1 := Lib.hid h1
  have K1 := Lib.hid k1
  clear h1 k1
  go_wp2_with fail
  refine Calls.mono (wbyte_e B b _ (UInt8.ofNat n) _ _ H1.out (by simp; omega) (Nat.le_trans hB K1.out.size) (byte_lo n)) ?_
  rintro e w2 ⟨rfl, h2, k2⟩
  have H2 : Hid (Bld B b (l ++ num2 n) w2) := by
    show Bld _ _ _ _
    have e : l ++ num2 n = l ++ [UInt8.ofNat (n / 256)] ++ [UInt8.ofNat n] := by unfold num2; simp
    rw [e]; exact h2
  have K2 := Lib.hid k2
  clear h2 k2
  go_wp2
  go_end0
  exact ⟨rfl, H2.out, K1.out.trans K2.out⟩
set_option maxRecDepth 100000 in
set_option maxHeartbeats 1000000 in
theorem refnum_any (n : Nat) (w : World) (hn : n ≤ 1048576) :
    Calls Try.prog 40 #[.int .i64 (n : Int)] w fun e w' => e = .returned (.string (strB (num2 n))) ∧ Keeps w w' := by
  have hcv : (convert 56 9 (.slice (some ⟨w.heap.size, 0, none⟩) 2 2)).run Try.prog (w.alloc (.cells #[.int .u8 ((n : Int) / 256 % 256), .int .u8 ((n : Int) % 256)] 5)) = .ok (.string (strB (num2 n))) (w.alloc (.cells #[.int .u8 ((n : Int) / 256 % 256), .int .u8 ((n : Int) % 256)] 5)) := by
    rw [byte_hi, byte_lo]
    exact conv_row Try.underlying56 Try.underlying5 Try.underlying9 (rowAt_lit w (num2 n) 2 2 rfl (by omega))
  go_enter Try.func40, Try.ntmps40
  go_wp2
  go_ret
  exact ⟨rfl, kal w _⟩
end Go.Proofs.Yteandjophamipaa
