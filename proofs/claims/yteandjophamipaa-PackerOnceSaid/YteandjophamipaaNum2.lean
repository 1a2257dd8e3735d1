/- The walk of the closure by which pack.Read takes a number. -/
import Derived.Test.YteandjophamipaaTake
namespace Go.Proofs.Yteandjophamipaa
open Go.RowKit
/-- A captured closure's block. -/
def Fnc (h : Array Obj) (t r d : Nat) : Prop := h[t]? = some (.cells #[.func (.func 41) #[] #[.pointer (some ⟨r, 0, none⟩), .pointer (some ⟨d, 0, none⟩)]] 67 (0, 0))
theorem Fnc.cell {w : World} {t r d : Nat} (h : Fnc w.heap t r d) : w.cell? ⟨t, 0, none⟩ = some (.func (.func 41) #[] #[.pointer (some ⟨r, 0, none⟩), .pointer (some ⟨d, 0, none⟩)]) := by
  unfold Fnc at h; simp [World.cell?, h]
theorem Fnc.lt {h : Array Obj} {t r d : Nat} (k : Fnc h t r d) : t < h.size := (Array.getElem?_eq_some_iff.1 k).1
theorem Fnc.chg {T : Nat → Prop} {w w' : World} {t r d : Nat} (h : Fnc w.heap t r d) (c : Chg T w w') (ht : ¬ T t) : Fnc w'.heap t r d := by
  unfold Fnc at *; rw [c.2.2.2.2 t (Fnc.lt h) ht]; exact h
set_option maxRecDepth 100000 in
theorem or_i64 (a b : Nat) (ha : a < 4611686018427387904) (hb : b < 4611686018427387904) : bits .or .i64 (a : Int) (b : Int) = ((a ||| b : Nat) : Int) := by
  have h : a ||| b < 4611686018427387904 := Nat.or_lt_two_pow (n := 62) ha hb
  have e : (2 : Nat) ^ IntKind.i64.bits = 18446744073709551616 := rfl
  exact bits_nat .or .i64 a b _ (by omega) (by omega) (· ||| ·) (fun x y => BitVec.toNat_or x y) rfl (IntWalk.i64_in _ (by omega))
theorem w64 (a : Int) (h0 : -9223372036854775808 ≤ a) (h1 : a ≤ 9223372036854775807) : wrap64 a = a := by
  unfold wrap64; omega
set_option maxRecDepth 100000 in
theorem two_bytes (a b : Nat) (ha : a < 256) (hb : b < 256) : bits .or .i64 (wrap64 (wrap64 (a : Int) * 256)) (wrap64 (b : Int)) = ((a * 256 + b : Nat) : Int) := by
  rw [w64 (a : Int) (by omega) (by omega), w64 (b : Int) (by omega) (by omega), w64 _ (by omega) (by omega)]
  have e : (a : Int) * 256 = ((a * 256 : Nat) : Int) := by omega
  rw [e, or_i64 _ _ (by omega) (by omega)]
  have := Nat.shiftLeft_add_eq_or_of_lt (i := 8) (b := b) (by omega) a
  rw [Nat.shiftLeft_eq] at this
  have h2 : a * 2 ^ 8 = a * 256 := rfl
  rw [h2] at this
  rw [← this]
theorem strB_at (r : List UInt8) (i : Nat) (h : i < (strB r).size) : (strB r)[i].toNat = byteAt r i := by
  have hl : i < r.length := by rw [strB_size] at h; exact h
  unfold byteAt
  rw [List.getD_eq_getElem?_getD, List.getElem?_eq_getElem hl]; rfl
set_option maxRecDepth 100000 in
set_option maxHeartbeats 1000000 in
theorem num_yes (t r d : Nat) (s : ByteArray) (w : World) (ht : Fnc w.heap t r d) (hr : Txt w.heap r s) (h1 : 2 ≤ s.size) (hs : s.size ≤ 9223372036854775807) :
    Calls Try.prog 43 #[.pointer (some ⟨t, 0, none⟩)] w fun e w' => e = .returned (.int .i64 (num s.data.toList 0 : Int)) ∧ Txt w'.heap r (strB (s.data.toList.drop 2)) ∧ Chg (fun k => k = r) w w' := by
  have c1 := ht.cell
  have HT := Lib.hid (take_yes r d 2 s w hr h1 hs)
  clear ht hr
  go_enter Try.func43, Try.ntmps43
  go_wp2_with fail
  refine Calls.mono HT.out ?_
  rintro e w1 ⟨rfl, hr, hc⟩
  have hz0 : (strB (s.data.toList.take 2)).size = 2 := by rw [strB_size, List.length_take, data_size]; omega
  have HV : Hid (∀ (x : ByteArray) (hz : x.size = 2), x = strB (s.data.toList.take 2) → bits .or .i64 (wrap64 (wrap64 (x[0].toNat : Int) * 256)) (wrap64 (x[1].toNat : Int)) = (num s.data.toList 0 : Int)) := fun x hz e => by
    subst e
    rw [two_bytes _ _ (UInt8.toNat_lt _) (UInt8.toNat_lt _), strB_at, strB_at]
    have l0 : 0 < s.data.toList.length := by rw [data_size]; omega
    have l1 : 1 < s.data.toList.length := by rw [data_size]; omega
    unfold num byteAt
    rw [List.getD_eq_getElem?_getD, List.getD_eq_getElem?_getD, List.getElem?_take, List.getElem?_take, if_pos (by omega), if_pos (by omega), ← List.getD_eq_getElem?_getD, ← List.getD_eq_getElem?_getD]
  generalize hx : strB (s.data.toList.take 2) = x at *
  have HX := Lib.hid hx
  have HR := Lib.hid hr
  have HC := Lib.hid hc
  clear hx hr hc
  go_wp2_with fail
  go_quiet (fail)
  go_wp2
  go_ret
  exact ⟨ret_int (HV.out x hz0 rfl), HR.out, HC.out⟩
set_option maxRecDepth 100000 in
set_option maxHeartbeats 1000000 in
theorem num_no (t r d : Nat) (s : ByteArray) (x : Bool) (w : World) (ht : Fnc w.heap t r d) (hr : Txt w.heap r s) (hd : Flg w.heap d x) (h1 : s.size < 2) (hne : r ≠ d) :
    Calls Try.prog 43 #[.pointer (some ⟨t, 0, none⟩)] w fun e w' => e = .returned (.int .i64 ((0 : Nat) : Int)) ∧ Flg w'.heap d true ∧ Chg (fun k => k = d) w w' := by
  have c1 := ht.cell
  have HT := Lib.hid (take_no r d 2 s x w hr hd h1 (by omega) hne)
  clear ht hr hd
  go_enter Try.func43, Try.ntmps43
  go_wp2_with fail
  refine Calls.mono HT.out ?_
  rintro e w1 ⟨rfl, hr, hc⟩
  have hz0 : (strB (List.replicate (min 2 2) 0)).size = 2 := rfl
  have HV : Hid (∀ (x : ByteArray) (hz : x.size = 2), x = strB (List.replicate (min 2 2) 0) → bits .or .i64 (wrap64 (wrap64 (x[0].toNat : Int) * 256)) (wrap64 (x[1].toNat : Int)) = ((0 : Nat) : Int)) := fun x hz e => by
    subst e
    rw [two_bytes _ _ (UInt8.toNat_lt _) (UInt8.toNat_lt _)]; rfl
  generalize strB (List.replicate (min 2 2) 0) = x at *
  have HR := Lib.hid hr
  have HC := Lib.hid hc
  clear hr hc
  go_wp2_with fail
  go_quiet (fail)
  go_wp2
  go_ret
  exact ⟨ret_int (HV.out x hz0 rfl), HR.out, HC.out⟩
/-- What pack.Read holds: what is left, whether it is bad, how bytes are taken. -/
def St (B : Nat) (x : List UInt8) (bad : Bool) (w : World) : Prop := Txt w.heap B (strB x) ∧ Flg w.heap (B + 1) bad ∧ Fnc w.heap (B + 2) B (B + 1)
theorem St.chg {T : Nat → Prop} {B : Nat} {x : List UInt8} {bad : Bool} {w w' : World} (h : St B x bad w) (c : Chg T w w') (ht : ∀ k, k < B + 3 → ¬ T k) : St B x bad w' :=
  ⟨h.1.chg c (ht _ (by omega)), h.2.1.chg c (ht _ (by omega)), h.2.2.chg c (ht _ (by omega))⟩
theorem St.lt {B : Nat} {x : List UInt8} {bad : Bool} {w : World} (h : St B x bad w) : B + 2 < w.heap.size := h.2.2.lt
/-- What is taken: so many bytes; or it is bad, and nothing is taken. -/
def Took (B n : Nat) (x : List UInt8) (bad : Bool) (w : World) (e : Ending) (w' : World) : Prop :=
  ∃ z x' bad', e = .returned (.string (strB z)) ∧ St B x' bad' w' ∧ Chg (fun k => k = B ∨ k = B + 1) w w' ∧ x'.length ≤ x.length ∧ (n ≤ x.length → z = x.take n ∧ x' = x.drop n ∧ bad' = bad) ∧ (x.length < n → z = List.replicate (min n 2) 0 ∧ bad' = true)
def Numd (B : Nat) (x : List UInt8) (bad : Bool) (w : World) (e : Ending) (w' : World) : Prop :=
  ∃ v x' bad', e = .returned (.int .i64 ((v : Nat) : Int)) ∧ St B x' bad' w' ∧ Chg (fun k => k = B ∨ k = B + 1) w w' ∧ x'.length ≤ x.length ∧ v < 65536 ∧ (2 ≤ x.length → v = num x 0 ∧ x' = x.drop 2 ∧ bad' = bad) ∧ (x.length < 2 → v = 0 ∧ bad' = true)
theorem take_u (B n : Nat) (x : List UInt8) (bad : Bool) (w : World) (h : St B x bad w) (hn : n ≤ 65536) (hx : x.length ≤ 9223372036854775807) :
    Calls Try.prog 41 #[.int .i64 (n : Int), .pointer (some ⟨B, 0, none⟩), .pointer (some ⟨B + 1, 0, none⟩)] w (Took B n x bad w) := by
  obtain ⟨h1, h2, h3⟩ := h
  rcases Nat.lt_or_ge x.length n with hl | hl
  · refine (take_no B (B + 1) n _ bad w h1 h2 (by rw [strB_size]; exact hl) hn (by omega)).mono ?_
    rintro e w' ⟨rfl, k1, k2⟩
    exact ⟨_, x, true, rfl, ⟨h1.chg k2 (by omega), k1, h3.chg k2 (by omega)⟩, k2.mono fun _ _ h => .inr h, Nat.le_refl _, fun h => by omega, fun _ => ⟨rfl, rfl⟩⟩
  · refine (take_yes B (B + 1) n _ w h1 (by rw [strB_size]; exact hl) (by rw [strB_size]; exact hx)).mono ?_
    rintro e w' ⟨rfl, k1, k2⟩
    exact ⟨_, x.drop n, bad, rfl, ⟨k1, h2.chg k2 (by omega), h3.chg k2 (by omega)⟩, k2.mono fun _ _ h => .inl h, by rw [List.length_drop]; omega, fun _ => ⟨rfl, rfl, rfl⟩, fun h => by omega⟩
theorem num_u (B : Nat) (x : List UInt8) (bad : Bool) (w : World) (h : St B x bad w) (hx : x.length ≤ 9223372036854775807) :
    Calls Try.prog 43 #[.pointer (some ⟨B + 2, 0, none⟩)] w (Numd B x bad w) := by
  obtain ⟨h1, h2, h3⟩ := h
  rcases Nat.lt_or_ge x.length 2 with hl | hl
  · refine (num_no (B + 2) B (B + 1) _ bad w h3 h1 h2 (by rw [strB_size]; exact hl) (by omega)).mono ?_
    rintro e w' ⟨rfl, k1, k2⟩
    exact ⟨0, x, true, rfl, ⟨h1.chg k2 (by omega), k1, h3.chg k2 (by omega)⟩, k2.mono fun _ _ h => .inr h, Nat.le_refl _, by omega, fun h => by omega, fun _ => ⟨rfl, rfl⟩⟩
  · refine (num_yes (B + 2) B (B + 1) _ w h3 h1 (by rw [strB_size]; exact hl) (by rw [strB_size]; exact hx)).mono ?_
    rintro e w' ⟨rfl, k1, k2⟩
    exact ⟨_, x.drop 2, bad, rfl, ⟨k1, h2.chg k2 (by omega), h3.chg k2 (by omega)⟩, k2.mono fun _ _ h => .inl h, by rw [List.length_drop]; omega, num_lt _ _, fun _ => ⟨rfl, rfl, rfl⟩, fun h => by omega⟩
end Go.Proofs.Yteandjophamipaa
