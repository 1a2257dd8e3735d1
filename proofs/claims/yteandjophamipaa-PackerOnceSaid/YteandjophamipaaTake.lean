/- The walks of the closures by which pack.Read takes bytes and numbers. -/
import Derived.Test.YteandjophamipaaPkM
import Derived.Test.YteandjophamipaaBuild
namespace Go.Proofs.Yteandjophamipaa
open Go.RowKit
/-- A captured variable's block: a text; a bool. -/
def Txt (h : Array Obj) (r : Nat) (s : ByteArray) : Prop := h[r]? = some (.cells #[.string s] 9 (0, 0))
def Flg (h : Array Obj) (d : Nat) (x : Bool) : Prop := h[d]? = some (.cells #[.bool x] 4 (0, 0))
theorem Txt.cell {w : World} {r : Nat} {s : ByteArray} (h : Txt w.heap r s) : w.cell? ⟨r, 0, none⟩ = some (.string s) ∧ w.frozen? ⟨r, 0, none⟩ = false := by
  unfold Txt at h
  exact ⟨by simp [World.cell?, h], by simp [World.frozen?, h]⟩
theorem Flg.cell {w : World} {r : Nat} {x : Bool} (h : Flg w.heap r x) : w.cell? ⟨r, 0, none⟩ = some (.bool x) ∧ w.frozen? ⟨r, 0, none⟩ = false := by
  unfold Flg at h
  exact ⟨by simp [World.cell?, h], by simp [World.frozen?, h]⟩
theorem Txt.set {w : World} {r : Nat} {s : ByteArray} (h : Txt w.heap r s) (t : ByteArray) : Txt (w.setCell ⟨r, 0, none⟩ (.string t)).heap r t := by
  unfold Txt at *
  unfold World.setCell; simp [Array.getElem?_modify, h]
theorem Flg.set {w : World} {r : Nat} {x : Bool} (h : Flg w.heap r x) (y : Bool) : Flg (w.setCell ⟨r, 0, none⟩ (.bool y)).heap r y := by
  unfold Flg at *
  unfold World.setCell; simp [Array.getElem?_modify, h]
theorem Txt.lt {h : Array Obj} {r : Nat} {s : ByteArray} (k : Txt h r s) : r < h.size := (Array.getElem?_eq_some_iff.1 k).1
theorem Flg.lt {h : Array Obj} {r : Nat} {s : Bool} (k : Flg h r s) : r < h.size := (Array.getElem?_eq_some_iff.1 k).1
theorem Txt.chg {T : Nat → Prop} {w w' : World} {r : Nat} {s : ByteArray} (h : Txt w.heap r s) (c : Chg T w w') (ht : ¬ T r) : Txt w'.heap r s := by
  unfold Txt at *; rw [c.2.2.2.2 r (Txt.lt h) ht]; exact h
theorem Flg.chg {T : Nat → Prop} {w w' : World} {r : Nat} {x : Bool} (h : Flg w.heap r x) (c : Chg T w w') (ht : ¬ T r) : Flg w'.heap r x := by
  unfold Flg at *; rw [c.2.2.2.2 r (Flg.lt h) ht]; exact h
theorem rep_zero (c : Nat) (w : World) (h : c ≤ 2) : Calls Try.prog 42 #[.string ⟨#[0]⟩, .int .i64 (c : Int)] w fun e w' => e = .returned (.string (strB (List.replicate c 0))) ∧ Keeps w w' := by
  refine (Sh.strings_Repeat ⟨#[0]⟩ c w (by omega) (by simp [ByteArray.size]; omega)).mono ?_
  rintro e w' ⟨rfl, hb⟩
  refine ⟨?_, hb.kept⟩
  have : c = 0 ∨ c = 1 ∨ c = 2 := by omega
  rcases this with rfl | rfl | rfl <;> rfl
set_option maxRecDepth 100000 in
set_option maxHeartbeats 1000000 in
theorem take_yes (r d n : Nat) (s : ByteArray) (w : World) (hr : Txt w.heap r s) (h1 : n ≤ s.size) (hs : s.size ≤ 9223372036854775807) :
    Calls Try.prog 41 #[.int .i64 (n : Int), .pointer (some ⟨r, 0, none⟩), .pointer (some ⟨d, 0, none⟩)] w fun e w' => e = .returned (.string (strB (s.data.toList.take n))) ∧ Txt w'.heap r (strB (s.data.toList.drop n)) ∧ Chg (fun k => k = r) w w' := by
  have hs := hs
  obtain ⟨c1, f1⟩ := hr.cell
  have g1 : decide ((s.size : Int) < (n : Int)) = false := decide_eq_false (by omega)
  have g2 : decide (s.size < n) = false := decide_eq_false (by omega)
  have HR := Lib.hid hr
  clear hr
  go_enter Try.func41, Try.ntmps41
  go_wp2_with fail
  go_ret
  exact ⟨by rw [← ext_take] <;> rfl, by rw [← ext_drop]; exact HR.out.set _, Chg.setCell (p := ⟨r, 0, none⟩) (T := fun k => k = r) (Chg.refl _ w) (fun _ => rfl) _⟩
set_option maxRecDepth 100000 in
set_option maxHeartbeats 1000000 in
theorem take_no (r d n : Nat) (s : ByteArray) (x : Bool) (w : World) (hr : Txt w.heap r s) (hd : Flg w.heap d x) (h1 : s.size < n) (hn : n ≤ 65536) (hne : r ≠ d) :
    Calls Try.prog 41 #[.int .i64 (n : Int), .pointer (some ⟨r, 0, none⟩), .pointer (some ⟨d, 0, none⟩)] w fun e w' => e = .returned (.string (strB (List.replicate (min n 2) 0))) ∧ Flg w'.heap d true ∧ Chg (fun k => k = d) w w' := by
  have hne := hne
  obtain ⟨c1, f1⟩ := hr.cell
  obtain ⟨c2, f2⟩ := hd.cell
  have g1 : decide ((s.size : Int) < (n : Int)) = true := decide_eq_true (by omega)
  have g2 : decide (s.size < n) = true := decide_eq_true (by omega)
  have HR := Lib.hid hr
  have HD := Lib.hid hd
  clear hr hd
  go_enter Try.func41, Try.ntmps41
  go_wp2_with fail
  have HC : Hid (Chg (fun k => k = d) w (w.setCell ⟨d, 0, none⟩ (.bool true))) := Chg.setCell (p := ⟨d, 0, none⟩) (T := fun k => k = d) (Chg.refl _ w) (fun _ => rfl) _
  have HD2 := Lib.hid (HD.out.set true)
  rcases Nat.lt_or_ge n 2 with h2 | h2
  · have e1 : min (n : Int) 2 = ((1 : Nat) : Int) := by omega
    have e2 : Hid (min n 2 = 1) := by show _ = _; omega
    rw [e1]
    refine Calls.mono (rep_zero 1 _ (by omega)) ?_
    rintro e w2 ⟨rfl, hk⟩
    have HC2 := Lib.hid (HC.out.call hk)
    have HD3 : Hid (Flg w2.heap d true) := HD2.out.chg (T := fun _ => False) (Kept.any hk) (fun x => x)
    go_wp2
    go_ret
    exact ⟨by rw [e2.out] <;> rfl, HD3.out, HC2.out⟩
  · have e1 : min (n : Int) 2 = ((2 : Nat) : Int) := by omega
    have e2 : Hid (min n 2 = 2) := by show _ = _; omega
    rw [e1]
    refine Calls.mono (rep_zero 2 _ (by omega)) ?_
    rintro e w2 ⟨rfl, hk⟩
    have HC2 := Lib.hid (HC.out.call hk)
    have HD3 : Hid (Flg w2.heap d true) := HD2.out.chg (T := fun _ => False) (Kept.any hk) (fun x => x)
    go_wp2
    go_ret
    exact ⟨by rw [e2.out] <;> rfl, HD3.out, HC2.out⟩
end Go.Proofs.Yteandjophamipaa
