/- The walks of what package strongboxlaw01 asks first: begins, works. -/
import Derived.Test.YtcapalofocmmoaaSExam

namespace Go.Proofs.Ytcapalofocmmoaa
open Go.RowKit
set_option maxRecDepth 100000 in
set_option maxHeartbeats 4000000 in
theorem begins_any (s f l : ByteArray) (w : World) (hs : s.size ≤ 20000) (hf : f.size ≤ 64) (hl : l.size ≤ 64) : Calls Try.prog 27 #[.string s, .string f, .string l] w fun e w' => e = .returned (.bool (begB s.data.toList f.data.toList l.data.toList)) ∧ Keeps w w' := by
  go_enter Try.func27, Try.ntmps27
  go_wp2_with fail
  refine Calls.mono (ssum_any s w (by omega)) ?_
  rintro e w1 ⟨rfl, hk⟩
  have HK := Lib.hid hk
  clear hk
  go_wp2_with fail
  refine Calls.mono (hex_any (strB (SH.sumB s.data.toList)) w1 (by rw [strB_size, SH.sumB_length]; omega)) ?_
  rintro e w2 ⟨rfl, hk⟩
  have HK := Lib.hid (HK.out.trans hk)
  clear hk
  have e0 : (strB (SH.sumB s.data.toList)).data.toList = SH.sumB s.data.toList := rfl
  rw [e0]
  clear e0
  have HL := Lib.hid (hex_len64 s.data.toList)
  have HB : Hid (begB s.data.toList f.data.toList l.data.toList = ((SH.hexB (SH.sumB s.data.toList)).take f.size == f.data.toList && (SH.hexB (SH.sumB s.data.toList)).drop (64 - l.size) == l.data.toList)) := by
    show _ = _
    unfold begB
    rw [data_size, data_size]
  generalize SH.hexB (SH.sumB s.data.toList) = x at *
  have HX : Hid ((strB x).size = 64) := by show _ = _; rw [strB_size]; exact HL.out
  have r1 : ∀ wx : World, (Instr.slice 9 (.string (strB x)) none (some (.int .i64 (f.size : Int))) none).run Try.prog wx = .ok (.string (strB (x.take f.size))) wx := fun wx => by
    have h64 := HX.out
    rw [run_slice_string_to_if _ _ _ _ _ rfl, if_pos (by omega), ext_take]
    rfl
  have r2 : ∀ wx : World, (Instr.slice 9 (.string (strB x)) (some (.int .i64 (64 - (l.size : Int)))) none none).run Try.prog wx = .ok (.string (strB (x.drop (64 - l.size)))) wx := fun wx => by
    have h64 := HX.out
    have e1 : (64 - (l.size : Int)).toNat = 64 - l.size := by omega
    rw [run_slice_string_from_if _ _ _ _ _ rfl, if_pos (by omega), e1, ext_drop]
    rfl
  have t1 : ((strB (x.take f.size)).toList == f.toList) = (x.take f.size == f.data.toList) := by rw [strB_toList, toList_eq]
  have t2 : ((strB (x.drop (64 - l.size))).toList == l.toList) = (x.drop (64 - l.size) == l.data.toList) := by rw [strB_toList, toList_eq]
  have hf2 : f.size ≤ 64 := hf
  have hl2 : l.size ≤ 64 := hl
  cases b1 : (x.take f.size == f.data.toList) with
  | true =>
    rw [b1] at t1
    cases b2 : (x.drop (64 - l.size) == l.data.toList) with
    | true =>
      rw [b2] at t2
      have HXX := HX.out
      go_wp2_with fail
      go_ret
      refine ⟨?_, HK.out⟩
      show Ending.returned (.bool _) = _
      rw [HB.out, b1, b2]; rfl
    | false =>
      rw [b2] at t2
      have HXX := HX.out
      go_wp2_with fail
      go_ret
      refine ⟨?_, HK.out⟩
      show Ending.returned (.bool _) = _
      rw [HB.out, b1, b2]; rfl
  | false =>
    rw [b1] at t1
    have HXX := HX.out
    go_wp2_with fail
    go_ret
    refine ⟨?_, HK.out⟩
    show Ending.returned (.bool _) = _
    rw [HB.out, b1]; rfl
theorem begins_e {s f l : ByteArray} (w : World) (h : begB s.data.toList f.data.toList l.data.toList = true) (hs : s.size ≤ 20000) (hf : f.size ≤ 64) (hl : l.size ≤ 64) : Calls Try.prog 27 #[.string s, .string f, .string l] w fun e w' => e = .returned (.bool true) ∧ Keeps w w' := by
  have := begins_any s f l w hs hf hl
  rw [h] at this
  exact this
theorem hex_e (s : ByteArray) {x : ByteArray} (w : World) (hs : s.size ≤ 1000000) (h : SH.hexB s.data.toList = x.data.toList) : Calls Try.prog 24 #[.string s] w fun e w' => e = .returned (.string x) ∧ Keeps w w' := by
  have := hex_any s w hs
  rw [h, strB_data] at this
  exact this
theorem unhex_e (s : ByteArray) {x : ByteArray} {n : Int} (w : World) (hs : s.size ≤ 1000000) (h : unhexE s.data.toList = (x, n)) : Calls Try.prog 21 #[.string s] w fun e w' => e = .returned (.tuple #[.string x, .int .i64 n]) ∧ Keeps w w' := by
  have := unhex_any s w hs
  rw [h] at this
  exact this
theorem unhex1 : unhexE (⟨#[48, 70]⟩ : ByteArray).data.toList = (⟨#[]⟩, 4) := by decide +kernel
set_option maxRecDepth 100000 in
set_option maxHeartbeats 4000000 in
theorem sworks_any (w : World) : Calls Try.prog 26 #[] w fun e w' => e = .returned (.bool true) ∧ Keeps w w' := by
  go_enter Try.func26, Try.ntmps26
  go_wp2_with fail
  refine Calls.mono (unhex_e _ w (by decide) unhex1) ?_
  rintro e w2 ⟨rfl, hk⟩
  have HK := Lib.hid hk
  clear hk
  go_wp2_with fail
  refine Calls.mono (begins_e _ ex1 (by decide) (by decide) (by decide)) ?_
  rintro e w3 ⟨rfl, hk⟩
  have HK := Lib.hid (HK.out.trans hk)
  clear hk
  go_wp2_with fail
  refine Calls.mono (begins_e _ ex2 (by decide) (by decide) (by decide)) ?_
  rintro e w4 ⟨rfl, hk⟩
  have HK := Lib.hid (HK.out.trans hk)
  clear hk
  go_wp2_with fail
  refine Calls.mono (many_any 1000 97 _ (by omega)) ?_
  rintro e w5 ⟨rfl, hk⟩
  have HK := Lib.hid (HK.out.trans hk)
  clear hk
  go_wp2_with fail
  refine Calls.mono (begins_e _ ex3 (by rw [manyB_sz]; omega) (by decide) (by decide)) ?_
  rintro e w6 ⟨rfl, hk⟩
  have HK := Lib.hid (HK.out.trans hk)
  clear hk
  go_wp2_with fail
  refine Calls.mono (hex_e ⟨#[0, 255]⟩ _ (by decide) hex1) ?_
  rintro e w7 ⟨rfl, hk⟩
  have HK := Lib.hid (HK.out.trans hk)
  clear hk
  have ht : ((⟨#[48, 48, 102, 102]⟩ : ByteArray).toList == [48, 48, 102, 102]) = true := by rw [toList_eq]; decide
  go_wp2_with fail
  go_ret
  exact ⟨rfl, HK.out⟩
end Go.Proofs.Ytcapalofocmmoaa
