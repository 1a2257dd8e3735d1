/- Frames and stamps compared; bytes cut short, or grown, are no frame's; a byte put in another's place. -/
import Derived.Test.YtcapalofocmmoaaFrLaw
import Derived.Laws.StructEq
namespace Go.Proofs.Ytcapalofocmmoaa
open Go.RowKit
def stEq (a1 a2 b1 b2 : Int) : Bool := a1 == b1 && a2 == b2
def frEq (a1 a2 a3 a4 b1 b2 b3 b4 : Int) (a b : ByteArray) : Bool := a1 == b1 && a2 == b2 && a3 == b3 && a4 == b4 && (a.toList == b.toList)
theorem stEq_iff {a1 a2 b1 b2 : Int} : stEq a1 a2 b1 b2 = true ↔ a1 = b1 ∧ a2 = b2 := by
  unfold stEq
  rw [Bool.and_eq_true, beq_iff_eq, beq_iff_eq]
theorem frEq_iff {a1 a2 a3 a4 b1 b2 b3 b4 : Int} {a b : ByteArray} : frEq a1 a2 a3 a4 b1 b2 b3 b4 a b = true ↔ a1 = b1 ∧ a2 = b2 ∧ a3 = b3 ∧ a4 = b4 ∧ a = b := by
  unfold frEq
  rw [txt_eq]
  simp only [Bool.and_eq_true, beq_iff_eq, decide_eq_true_eq, and_assoc]
set_option maxRecDepth 100000 in
theorem run_stEq (a1 a2 b1 b2 : Int) (w : World) : (binOp .eql 43 (.agg #[.int .i64 a1, .int .i64 a2]) (.agg #[.int .i64 b1, .int .i64 b2])).run Try.prog w = .ok (.bool (stEq a1 a2 b1 b2)) w := by
  unfold stEq
  cases h1 : a1 == b1 <;> cases h2 : a2 == b2 <;> go_simp
set_option maxRecDepth 100000 in
theorem run_frEq (a1 a2 a3 a4 b1 b2 b3 b4 : Int) (a b : ByteArray) (w : World) : (binOp .eql 47 (.agg #[.int .i64 a1, .int .i64 a2, .int .i64 a3, .int .i64 a4, .string a]) (.agg #[.int .i64 b1, .int .i64 b2, .int .i64 b3, .int .i64 b4, .string b])).run Try.prog w = .ok (.bool (frEq a1 a2 a3 a4 b1 b2 b3 b4 a b)) w := by
  unfold frEq
  cases h1 : a1 == b1 with
  | false => go_simp
  | true =>
  cases h2 : a2 == b2 with
  | false => go_simp
  | true =>
  cases h3 : a3 == b3 with
  | false => go_simp
  | true =>
  cases h4 : a4 == b4 with
  | false => go_simp
  | true =>
  cases h5 : a.toList == b.toList with
  | false => go_simp
  | true => go_simp
/-- What a frame's bytes say of their own length. -/
theorem read_long {d : List UInt8} (h : readOk d = true) : d.length = 50 + beN ((d.drop 14).take 4) := by
  obtain ⟨ep, gen, k, n, body, hm, hl, rfl⟩ := readOk_is h
  have e : ((sealF (textF ep gen k n body)).drop 14).take 4 = SH.four body.length := rfl
  rw [e, beN_four (by omega), sealF_length, textF_length]
  omega
theorem read_cut {d c : List UInt8} (h : readOk d = true) (hc : c.take 18 = d.take 18) (hl : c.length ≠ d.length) : readOk c = false := by
  cases e : readOk c with
  | false => rfl
  | true =>
    have h1 := read_long h
    have h2 := read_long e
    have e1 : ∀ l : List UInt8, (l.drop 14).take 4 = (l.take 18).drop 14 := fun l => by rw [List.drop_take]
    rw [e1] at h1 h2
    rw [hc] at h2
    omega
theorem seal_is {d : List UInt8} (h : readOk d = true) : SH.sumB (d.take (d.length - 32)) = d.drop (d.length - 32) := by
  unfold readOk sealOk textOf at h
  simp only [Bool.and_eq_true, beq_iff_eq] at h
  exact h.1.2
theorem readF_yes {d : List UInt8} (h : readOk d = true) : (readF d).2 = 0 := by
  unfold readF
  rw [if_pos h]
theorem readF_no2 {d : List UInt8} (h : readOk d = false) : (readF d).2 = 4 := by rw [readF_no h]
theorem readF_ok {d : List UInt8} (h : (readF d).2 = 0) : readOk d = true := by
  cases e : readOk d with
  | true => rfl
  | false => rw [readF_no2 e] at h; cases h
theorem readF_shape2 (d : List UInt8) : ∃ ep gen k n b e, readF d = (frV ep gen k n b, e) := by
  unfold readF
  split
  · exact ⟨_, _, _, _, _, _, rfl⟩
  · exact ⟨_, _, _, _, _, _, rfl⟩
end Go.Proofs.Ytcapalofocmmoaa
