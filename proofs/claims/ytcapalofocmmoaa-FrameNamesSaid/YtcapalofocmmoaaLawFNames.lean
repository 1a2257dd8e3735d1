/- The walk of the law FrameNames. -/
import Derived.Test.YtcapalofocmmoaaFrWorks
import Derived.Test.YtcapalofocmmoaaFrEq
import Derived.Test.YtcapalofocmmoaaSExam
import Derived.Great.BuildSlice
namespace Go.Proofs.Ytcapalofocmmoaa
open Go.RowKit
def RowH (w : World) (g : Nat) (cs : Array Value) (T : TypeId) : Prop := w.heap[g]? = some (.cells cs T (0, 0))
theorem RowH.keeps {w w' : World} {g : Nat} {cs : Array Value} {T : TypeId} (h : RowH w g cs T) (k : Keeps w w') : RowH w' g cs T := (k.2.2.2.2 g (Array.getElem?_eq_some_iff.1 h).1).trans h
theorem makeF_two (ep gen k n : Int) (b : ByteArray) : (makeF ep gen k n b).1 = ⟨#[]⟩ ∨ (b.size + 50 ≤ 65536 ∧ (makeF ep gen k n b).1 = strB (sealF (textF ep.toNat gen.toNat k.toNat n.toNat b.data.toList))) := by
  unfold makeF
  split
  · split
    · rename_i h; exact .inr ⟨h, rfl⟩
    · exact .inl rfl
  · exact .inl rfl
theorem sum_ne : SH.sumB ((⟨#[109, 97, 110, 49, 0, 0, 0, 1, 0, 0, 0, 2, 2, 3, 0, 0, 0, 1, 120]⟩ : ByteArray)).data.toList ≠ SH.sumB ((⟨#[97, 110, 49, 0, 0, 0, 1, 0, 0, 0, 2, 2, 3, 0, 0, 0, 1, 120]⟩ : ByteArray)).data.toList := by decide +kernel
theorem make_small (ep gen k n : Int) (b S : ByteArray) (h : S = (makeF ep gen k n b).1) : S.size ≤ 9223372036854775807 := by
  rcases makeF_two ep gen k n b with h2 | ⟨h1, h2⟩
  · rw [h, h2]; decide
  · rw [h, h2, strB_size, sealF_length, textF_length, data_size]; omega
def zerosB (n : Nat) : List UInt8 := List.replicate n 0
theorem mkz_any (n : Nat) (h : n ≤ 100000) (w : World) : ∃ ob, (Instr.makeSlice 59 (.int .i64 (n : Int)) (.int .i64 (n : Int))).run Try.prog w = .ok (.slice (some ⟨w.heap.size, 0, none⟩) n n) (w.alloc ob) ∧ RowAt (w.alloc ob).heap (.slice (some ⟨w.heap.size, 0, none⟩) n n) (strB (zerosB n)).data.toList := by
  refine ⟨_, run_mk 59 5 1 (.int .u8 0) Try.underlying59 (by kernel_rfl) rfl n (by omega) (by omega) w, ?_⟩
  have := (BRow.new w n).at_ (by omega)
  rwa [show (List.range n).map (fun _ => (0 : UInt8)) = (strB (zerosB n)).data.toList from by
    show _ = List.replicate n 0
    apply List.ext_getElem (by simp)
    intro i h1 h2
    simp] at this
set_option maxRecDepth 100000 in
theorem add_lit (x y z : ByteArray) (h : x ++ y = z) (hs : x.size + y.size ≤ 1000) (w : World) : (binOp .add 9 (.string x) (.string y)).run Try.prog w = .ok (.string z) w := by
  have hq : (9223372036854775807 < x.size + y.size) = False := eq_false (by omega)
  subst h
  go_simp
theorem row_texts {w : World} {B : Nat} {T : TypeId} (l : List ByteArray) (h : RowH w B (l.map Value.string).toArray T) (hl : l.length ≤ 1000) : TextsAt w.heap (.slice (some ⟨B, 0, none⟩) l.length l.length) l := by
  refine ⟨_, l.length, rfl, by omega, fun i hi => ⟨B, 0, .string l[i], rfl, ?_, rfl⟩⟩
  unfold cellH
  rw [show w.heap[B]? = _ from h, Nat.zero_add]
  show (l.map Value.string).toArray[i]? = _
  simp [hi]
def exA (ep gen k n : Int) (b : ByteArray) (er : Int) : Array Value := #[.int .i64 ep, .int .i64 gen, .int .i64 k, .int .i64 n, .string b, .int .i64 er]
theorem exA_one (ep gen k n : Int) (b : ByteArray) (er : Int) : (exA ep gen k n b er).all (·.oneCell') = true :=
  Array.all_eq_true_iff_forall_mem.2 fun v hv => by
    have hv' : v ∈ (exA ep gen k n b er).toList := by simpa using hv
    simp only [exA, List.mem_cons, List.not_mem_nil, or_false] at hv'
    rcases hv' with rfl | rfl | rfl | rfl | rfl | rfl <;> rfl
theorem bad_seal (G X : ByteArray) (hne : SH.sumB G.data.toList ≠ SH.sumB X.data.toList) : readOk (G ++ strB (SH.sumB X.data.toList)).data.toList = false := by
  cases e : readOk (G ++ strB (SH.sumB X.data.toList)).data.toList with
  | false => rfl
  | true =>
    have h := seal_is e
    have e1 : (G ++ strB (SH.sumB X.data.toList)).data.toList = G.data.toList ++ SH.sumB X.data.toList := by simp [strB]
    have e2 : (G.data.toList ++ SH.sumB X.data.toList).length - 32 = G.data.toList.length := by rw [List.length_append, SH.sumB_length, Nat.add_sub_cancel]
    rw [e1, e2, List.take_left, List.drop_left] at h
    exact absurd h hne
theorem seal_app (x : ByteArray) : (x ++ strB (SH.sumB x.data.toList)).data.toList = sealF x.data.toList := by
  unfold sealF
  simp [strB]
def tabC (Z1 Z2 Z3 : ByteArray) : Array Value := #[.int .i64 0, .int .i64 0, .int .i64 1, .int .i64 1, .string ⟨#[]⟩, .int .i64 0, .int .i64 2147483647, .int .i64 2147483647, .int .i64 12, .int .i64 12, .string ⟨#[98]⟩, .int .i64 0, .int .i64 (-1), .int .i64 0, .int .i64 1, .int .i64 1, .string ⟨#[]⟩, .int .i64 1, .int .i64 0, .int .i64 (-1), .int .i64 1, .int .i64 1, .string ⟨#[]⟩, .int .i64 1, .int .i64 2147483648, .int .i64 0, .int .i64 1, .int .i64 1, .string ⟨#[]⟩, .int .i64 1, .int .i64 0, .int .i64 2147483648, .int .i64 1, .int .i64 1, .string ⟨#[]⟩, .int .i64 1, .int .i64 0, .int .i64 0, .int .i64 0, .int .i64 1, .string ⟨#[]⟩, .int .i64 1, .int .i64 0, .int .i64 0, .int .i64 1, .int .i64 13, .string ⟨#[]⟩, .int .i64 1, .int .i64 0, .int .i64 0, .int .i64 1, .int .i64 1, .string Z1, .int .i64 0, .int .i64 0, .int .i64 0, .int .i64 1, .int .i64 1, .string Z2, .int .i64 40, .int .i64 0, .int .i64 0, .int .i64 0, .int .i64 1, .string Z3, .int .i64 1]
set_option maxRecDepth 100000 in
theorem bs_tab (Z1 Z2 Z3 : ByteArray) (w : World) : (Instr.buildSlice 60 11 #[(0, .agg #[.int .i64 0, .int .i64 0, .int .i64 1, .int .i64 1, .string ⟨#[]⟩, .int .i64 0]), (1, .agg #[.int .i64 2147483647, .int .i64 2147483647, .int .i64 12, .int .i64 12, .string ⟨#[98]⟩, .int .i64 0]), (2, .agg #[.int .i64 (-1), .int .i64 0, .int .i64 1, .int .i64 1, .string ⟨#[]⟩, .int .i64 1]), (3, .agg #[.int .i64 0, .int .i64 (-1), .int .i64 1, .int .i64 1, .string ⟨#[]⟩, .int .i64 1]), (4, .agg #[.int .i64 2147483648, .int .i64 0, .int .i64 1, .int .i64 1, .string ⟨#[]⟩, .int .i64 1]), (5, .agg #[.int .i64 0, .int .i64 2147483648, .int .i64 1, .int .i64 1, .string ⟨#[]⟩, .int .i64 1]), (6, .agg #[.int .i64 0, .int .i64 0, .int .i64 0, .int .i64 1, .string ⟨#[]⟩, .int .i64 1]), (7, .agg #[.int .i64 0, .int .i64 0, .int .i64 1, .int .i64 13, .string ⟨#[]⟩, .int .i64 1]), (8, .agg #[.int .i64 0, .int .i64 0, .int .i64 1, .int .i64 1, .string Z1, .int .i64 0]), (9, .agg #[.int .i64 0, .int .i64 0, .int .i64 1, .int .i64 1, .string Z2, .int .i64 40]), (10, .agg #[.int .i64 0, .int .i64 0, .int .i64 0, .int .i64 1, .string Z3, .int .i64 1])]).run Try.prog w = .ok (.slice (some ⟨w.heap.size, 0, none⟩) 11 11) (w.alloc (.cells (tabC Z1 Z2 Z3) 58)) := by
  exact run_buildSlice w 60 58 11 _ (tabC Z1 Z2 Z3) _ _ Try.underlying60 rfl rfl (by decide) (by decide) (by kernel_rfl)
theorem good_ok (ep gen k n : Nat) (b : ByteArray) (hm : mayF ep gen k n = true) (hs : b.size + 50 ≤ 65536) : (makeF ep gen k n b).2 = 0 ∧ ((0 : Int) = 0 → readF (makeF ep gen k n b).1.data.toList = (frV ep gen k n b, 0)) := by
  have e := makeF_yes (body := b.data.toList) hm (by rw [data_size]; exact hs)
  have r := readF_seal (body := b.data.toList) hm (by rw [data_size]; exact hs)
  rw [strB_data] at e r
  rw [e]
  exact ⟨rfl, fun _ => r⟩
theorem tab_at (Z1 Z2 Z3 : ByteArray) (h1 : Z1.size = 65486) (h2 : Z2.size = 65487) (h3 : Z3.size = 70000) (k : Nat) (hk : k < 11) : ∃ (ep gen kk n : Int) (b : ByteArray) (er : Int),
    ((tabC Z1 Z2 Z3)[k * 6]? = some (.int .i64 ep) ∧ (tabC Z1 Z2 Z3)[k * 6 + 1]? = some (.int .i64 gen) ∧ (tabC Z1 Z2 Z3)[k * 6 + 2]? = some (.int .i64 kk) ∧ (tabC Z1 Z2 Z3)[k * 6 + 3]? = some (.int .i64 n) ∧ (tabC Z1 Z2 Z3)[k * 6 + 4]? = some (.string b) ∧ (tabC Z1 Z2 Z3)[k * 6 + 5]? = some (.int .i64 er)) ∧
    b.size ≤ 70000 ∧ (makeF ep gen kk n b).2 = er ∧ (er = 0 → readF (makeF ep gen kk n b).1.data.toList = (frV ep gen kk n b, 0)) := by
  match k, hk with
  | 0, _ => exact ⟨0, 0, 1, 1, ⟨#[]⟩, 0, ⟨rfl, rfl, rfl, rfl, rfl, rfl⟩, by decide, good_ok 0 0 1 1 ⟨#[]⟩ (by decide) (by decide)⟩
  | 1, _ => exact ⟨2147483647, 2147483647, 12, 12, ⟨#[98]⟩, 0, ⟨rfl, rfl, rfl, rfl, rfl, rfl⟩, by decide, good_ok 2147483647 2147483647 12 12 ⟨#[98]⟩ (by decide) (by decide)⟩
  | 2, _ => exact ⟨(-1), 0, 1, 1, ⟨#[]⟩, 1, ⟨rfl, rfl, rfl, rfl, rfl, rfl⟩, by decide, ⟨rfl, fun h => absurd h (by decide)⟩⟩
  | 3, _ => exact ⟨0, (-1), 1, 1, ⟨#[]⟩, 1, ⟨rfl, rfl, rfl, rfl, rfl, rfl⟩, by decide, ⟨rfl, fun h => absurd h (by decide)⟩⟩
  | 4, _ => exact ⟨2147483648, 0, 1, 1, ⟨#[]⟩, 1, ⟨rfl, rfl, rfl, rfl, rfl, rfl⟩, by decide, ⟨rfl, fun h => absurd h (by decide)⟩⟩
  | 5, _ => exact ⟨0, 2147483648, 1, 1, ⟨#[]⟩, 1, ⟨rfl, rfl, rfl, rfl, rfl, rfl⟩, by decide, ⟨rfl, fun h => absurd h (by decide)⟩⟩
  | 6, _ => exact ⟨0, 0, 0, 1, ⟨#[]⟩, 1, ⟨rfl, rfl, rfl, rfl, rfl, rfl⟩, by decide, ⟨rfl, fun h => absurd h (by decide)⟩⟩
  | 7, _ => exact ⟨0, 0, 1, 13, ⟨#[]⟩, 1, ⟨rfl, rfl, rfl, rfl, rfl, rfl⟩, by decide, ⟨rfl, fun h => absurd h (by decide)⟩⟩
  | 8, _ => exact ⟨0, 0, 1, 1, Z1, 0, ⟨rfl, rfl, rfl, rfl, rfl, rfl⟩, by omega, good_ok 0 0 1 1 Z1 (by decide) (by omega)⟩
  | 9, _ => exact ⟨0, 0, 1, 1, Z2, 40, ⟨rfl, rfl, rfl, rfl, rfl, rfl⟩, by omega, ⟨by unfold makeF; rw [if_pos (by decide), if_neg (by omega)], fun h => absurd h (by decide)⟩⟩
  | 10, _ => exact ⟨0, 0, 0, 1, Z3, 1, ⟨rfl, rfl, rfl, rfl, rfl, rfl⟩, by omega, ⟨rfl, fun h => absurd h (by decide)⟩⟩
def fn3 (Z1 Z2 Z3 : ByteArray) : Nat → Value → World → Prop
  | 16, v, w => ∃ B, v = .slice (some ⟨B, 0, none⟩) 65486 65486 ∧ RowAt w.heap v Z1.data.toList
  | 20, v, w => ∃ B, v = .slice (some ⟨B, 0, none⟩) 65487 65487 ∧ RowAt w.heap v Z2.data.toList
  | 24, v, w => ∃ B, v = .slice (some ⟨B, 0, none⟩) 70000 70000 ∧ RowAt w.heap v Z3.data.toList
  | 28, v, w => ∃ B, v = .slice (some ⟨B, 0, none⟩) 11 11 ∧ RowH w B (tabC Z1 Z2 Z3) 58
  | i, v, _ => v = ([.agg #[.int .i64 0, .int .i64 0, .int .i64 1, .int .i64 1, .string ⟨#[]⟩], .agg #[.int .i64 0, .int .i64 0, .int .i64 1, .int .i64 1, .string ⟨#[]⟩, .int .i64 0], .agg #[.int .i64 2147483647, .int .i64 2147483647, .int .i64 12, .int .i64 12, .string ⟨#[98]⟩], .agg #[.int .i64 2147483647, .int .i64 2147483647, .int .i64 12, .int .i64 12, .string ⟨#[98]⟩, .int .i64 0], .agg #[.int .i64 (-1), .int .i64 0, .int .i64 1, .int .i64 1, .string ⟨#[]⟩], .agg #[.int .i64 (-1), .int .i64 0, .int .i64 1, .int .i64 1, .string ⟨#[]⟩, .int .i64 1], .agg #[.int .i64 0, .int .i64 (-1), .int .i64 1, .int .i64 1, .string ⟨#[]⟩], .agg #[.int .i64 0, .int .i64 (-1), .int .i64 1, .int .i64 1, .string ⟨#[]⟩, .int .i64 1], .agg #[.int .i64 2147483648, .int .i64 0, .int .i64 1, .int .i64 1, .string ⟨#[]⟩], .agg #[.int .i64 2147483648, .int .i64 0, .int .i64 1, .int .i64 1, .string ⟨#[]⟩, .int .i64 1], .agg #[.int .i64 0, .int .i64 2147483648, .int .i64 1, .int .i64 1, .string ⟨#[]⟩], .agg #[.int .i64 0, .int .i64 2147483648, .int .i64 1, .int .i64 1, .string ⟨#[]⟩, .int .i64 1], .agg #[.int .i64 0, .int .i64 0, .int .i64 0, .int .i64 1, .string ⟨#[]⟩], .agg #[.int .i64 0, .int .i64 0, .int .i64 0, .int .i64 1, .string ⟨#[]⟩, .int .i64 1], .agg #[.int .i64 0, .int .i64 0, .int .i64 1, .int .i64 13, .string ⟨#[]⟩], .agg #[.int .i64 0, .int .i64 0, .int .i64 1, .int .i64 13, .string ⟨#[]⟩, .int .i64 1], undef, .string Z1, .agg #[.int .i64 0, .int .i64 0, .int .i64 1, .int .i64 1, .string Z1], .agg #[.int .i64 0, .int .i64 0, .int .i64 1, .int .i64 1, .string Z1, .int .i64 0], undef, .string Z2, .agg #[.int .i64 0, .int .i64 0, .int .i64 1, .int .i64 1, .string Z2], .agg #[.int .i64 0, .int .i64 0, .int .i64 1, .int .i64 1, .string Z2, .int .i64 40], undef, .string Z3, .agg #[.int .i64 0, .int .i64 0, .int .i64 0, .int .i64 1, .string Z3], .agg #[.int .i64 0, .int .i64 0, .int .i64 0, .int .i64 1, .string Z3, .int .i64 1], undef, .int .i64 11, .int .i64 0] : List Value).getD i undef
theorem fn3_keeps {Z1 Z2 Z3 : ByteArray} (i : Nat) (v : Value) (w w' : World) (c : Keeps w w') (h : fn3 Z1 Z2 Z3 i v w) : fn3 Z1 Z2 Z3 i v w' := by
  match i, h with
  | 0, h => exact h
  | 1, h => exact h
  | 2, h => exact h
  | 3, h => exact h
  | 4, h => exact h
  | 5, h => exact h
  | 6, h => exact h
  | 7, h => exact h
  | 8, h => exact h
  | 9, h => exact h
  | 10, h => exact h
  | 11, h => exact h
  | 12, h => exact h
  | 13, h => exact h
  | 14, h => exact h
  | 15, h => exact h
  | 16, h => obtain ⟨B, h1, h2⟩ := h; exact ⟨B, h1, SeqAt.keeps h2 c⟩
  | 17, h => exact h
  | 18, h => exact h
  | 19, h => exact h
  | 20, h => obtain ⟨B, h1, h2⟩ := h; exact ⟨B, h1, SeqAt.keeps h2 c⟩
  | 21, h => exact h
  | 22, h => exact h
  | 23, h => exact h
  | 24, h => obtain ⟨B, h1, h2⟩ := h; exact ⟨B, h1, SeqAt.keeps h2 c⟩
  | 25, h => exact h
  | 26, h => exact h
  | 27, h => exact h
  | 28, h => obtain ⟨B, h1, h2⟩ := h; exact ⟨B, h1, h2.keeps c⟩
  | 29, h => exact h
  | 30, h => exact h
  | _ + 31, h => exact h
def fn12 (G X93 X94 X96 X98 X100 X102 X103 X105 X106 X108 X109 X111 X112 X114 X115 X117 X118 X120 X121 X123 X124 X126 X127 X129 X130 X132 X133 : ByteArray) : Nat → Value → World → Prop
  | 42, v, w => ∃ B, v = .slice (some ⟨B, 0, none⟩) 13 13 ∧ RowH w B #[.string ⟨#[]⟩, .string ⟨#[109, 97, 110, 49]⟩, .string X94, .string X96, .string X98, .string X100, .string X103, .string X109, .string X115, .string X121, .string X127, .string X130, .string X133] 9
  | i, v, _ => v = ([.string G, .string X93, .string X94, .string G, .string X96, .string G, .string X98, .string G, .string X100, .string G, .string X102, .string X103, .string G, .string X105, .string X106, .string G, .string X108, .string X109, .string G, .string X111, .string X112, .string G, .string X114, .string X115, .string G, .string X117, .string X118, .string G, .string X120, .string X121, .string G, .string X123, .string X124, .string G, .string X126, .string X127, .string G, .string X129, .string X130, .string G, .string X132, .string X133, undef, .int .i64 13, .int .i64 0] : List Value).getD i undef
theorem fn12_keeps {G X93 X94 X96 X98 X100 X102 X103 X105 X106 X108 X109 X111 X112 X114 X115 X117 X118 X120 X121 X123 X124 X126 X127 X129 X130 X132 X133 : ByteArray} (i : Nat) (v : Value) (w w' : World) (c : Keeps w w') (h : fn12 G X93 X94 X96 X98 X100 X102 X103 X105 X106 X108 X109 X111 X112 X114 X115 X117 X118 X120 X121 X123 X124 X126 X127 X129 X130 X132 X133 i v w) : fn12 G X93 X94 X96 X98 X100 X102 X103 X105 X106 X108 X109 X111 X112 X114 X115 X117 X118 X120 X121 X123 X124 X126 X127 X129 X130 X132 X133 i v w' := by
  match i, h with
  | 0, h => exact h
  | 1, h => exact h
  | 2, h => exact h
  | 3, h => exact h
  | 4, h => exact h
  | 5, h => exact h
  | 6, h => exact h
  | 7, h => exact h
  | 8, h => exact h
  | 9, h => exact h
  | 10, h => exact h
  | 11, h => exact h
  | 12, h => exact h
  | 13, h => exact h
  | 14, h => exact h
  | 15, h => exact h
  | 16, h => exact h
  | 17, h => exact h
  | 18, h => exact h
  | 19, h => exact h
  | 20, h => exact h
  | 21, h => exact h
  | 22, h => exact h
  | 23, h => exact h
  | 24, h => exact h
  | 25, h => exact h
  | 26, h => exact h
  | 27, h => exact h
  | 28, h => exact h
  | 29, h => exact h
  | 30, h => exact h
  | 31, h => exact h
  | 32, h => exact h
  | 33, h => exact h
  | 34, h => exact h
  | 35, h => exact h
  | 36, h => exact h
  | 37, h => exact h
  | 38, h => exact h
  | 39, h => exact h
  | 40, h => exact h
  | 41, h => exact h
  | 42, h => obtain ⟨B, h1, h2⟩ := h; exact ⟨B, h1, h2.keeps c⟩
  | 43, h => exact h
  | 44, h => exact h
  | _ + 45, h => exact h
def fn21 (N : Nat) : Nat → Value → Prop
  | i, v => v = ([.int .i64 4, .bool true, .bool true, .int .i64 0, .bool true, .bool true, .bool true, .agg #[.int .i64 1, .int .i64 2, .int .i64 2, .int .i64 3, .string ⟨#[120]⟩], .agg #[.int .i64 1, .int .i64 2, .int .i64 2, .int .i64 3, .string ⟨#[120]⟩], .bool true, .bool true, .bool true] : List Value).getD i undef
set_option maxRecDepth 100000 in
set_option maxHeartbeats 8000000 in
theorem fnames_any (w : World) : Calls Try.prog 11 #[] w fun e w' => e = .returned (.bool true) ∧ Keeps w w' := by
  have HWK := Lib.hid frworks_any
  have HOF := Lib.hid frof_any
  unfold frV at HOF
  obtain ⟨Z1, hZ1⟩ : ∃ Z, Z = strB (zerosB 65486) := ⟨_, rfl⟩
  have HMK1 : Hid (∀ wx : World, ∃ ob, (Instr.makeSlice 59 (.int .i64 65486) (.int .i64 65486)).run Try.prog wx = .ok (.slice (some ⟨wx.heap.size, 0, none⟩) 65486 65486) (wx.alloc ob) ∧ RowAt (wx.alloc ob).heap (.slice (some ⟨wx.heap.size, 0, none⟩) 65486 65486) Z1.data.toList) := by rw [hZ1]; exact fun wx => mkz_any 65486 (by omega) wx
  have HZ1 : Hid (Z1.size = 65486) := by show _ = _; rw [hZ1, strB_size]; unfold zerosB; rw [List.length_replicate]
  clear hZ1
  obtain ⟨Z2, hZ2⟩ : ∃ Z, Z = strB (zerosB 65487) := ⟨_, rfl⟩
  have HMK2 : Hid (∀ wx : World, ∃ ob, (Instr.makeSlice 59 (.int .i64 65487) (.int .i64 65487)).run Try.prog wx = .ok (.slice (some ⟨wx.heap.size, 0, none⟩) 65487 65487) (wx.alloc ob) ∧ RowAt (wx.alloc ob).heap (.slice (some ⟨wx.heap.size, 0, none⟩) 65487 65487) Z2.data.toList) := by rw [hZ2]; exact fun wx => mkz_any 65487 (by omega) wx
  have HZ2 : Hid (Z2.size = 65487) := by show _ = _; rw [hZ2, strB_size]; unfold zerosB; rw [List.length_replicate]
  clear hZ2
  obtain ⟨Z3, hZ3⟩ : ∃ Z, Z = strB (zerosB 70000) := ⟨_, rfl⟩
  have HMK3 : Hid (∀ wx : World, ∃ ob, (Instr.makeSlice 59 (.int .i64 70000) (.int .i64 70000)).run Try.prog wx = .ok (.slice (some ⟨wx.heap.size, 0, none⟩) 70000 70000) (wx.alloc ob) ∧ RowAt (wx.alloc ob).heap (.slice (some ⟨wx.heap.size, 0, none⟩) 70000 70000) Z3.data.toList) := by rw [hZ3]; exact fun wx => mkz_any 70000 (by omega) wx
  have HZ3 : Hid (Z3.size = 70000) := by show _ = _; rw [hZ3, strB_size]; unfold zerosB; rw [List.length_replicate]
  clear hZ3
  have HTB := Lib.hid (tab_at Z1 Z2 Z3 HZ1.out HZ2.out HZ3.out)
  clear HZ1 HZ2 HZ3
  obtain ⟨G, hG⟩ : ∃ x, x = (⟨#[109, 97, 110, 49, 0, 0, 0, 1, 0, 0, 0, 2, 2, 3, 0, 0, 0, 1, 120]⟩ : ByteArray) := ⟨_, rfl⟩
  obtain ⟨X93, hX93⟩ : ∃ x, x = (⟨#[0, 0, 0, 1, 0, 0, 0, 2, 2, 3, 0, 0, 0, 1, 120]⟩ : ByteArray) := ⟨_, rfl⟩
  obtain ⟨X94, hX94⟩ : ∃ x, x = (⟨#[109, 97, 110, 50, 0, 0, 0, 1, 0, 0, 0, 2, 2, 3, 0, 0, 0, 1, 120]⟩ : ByteArray) := ⟨_, rfl⟩
  obtain ⟨X96, hX96⟩ : ∃ x, x = (⟨#[109, 97, 110, 49, 0, 0, 0, 1, 0, 0, 0, 2, 2, 3, 0, 0, 0, 1, 120, 121]⟩ : ByteArray) := ⟨_, rfl⟩
  obtain ⟨X98, hX98⟩ : ∃ x, x = (⟨#[109, 97, 110, 49, 0, 0, 0, 1, 0, 0, 0, 2, 2, 3, 0, 0, 0, 1]⟩ : ByteArray) := ⟨_, rfl⟩
  obtain ⟨X100, hX100⟩ : ∃ x, x = (⟨#[109, 97, 110, 49, 0, 0, 0, 1, 0, 0, 0, 2, 2, 3, 0, 0, 0]⟩ : ByteArray) := ⟨_, rfl⟩
  obtain ⟨X102, hX102⟩ : ∃ x, x = (⟨#[0, 0, 1, 0, 0, 0, 2, 2, 3, 0, 0, 0, 1, 120]⟩ : ByteArray) := ⟨_, rfl⟩
  obtain ⟨X103, hX103⟩ : ∃ x, x = (⟨#[109, 97, 110, 49, 128, 0, 0, 1, 0, 0, 0, 2, 2, 3, 0, 0, 0, 1, 120]⟩ : ByteArray) := ⟨_, rfl⟩
  obtain ⟨X105, hX105⟩ : ∃ x, x = (⟨#[109, 97, 110, 49, 0, 0, 0, 1]⟩ : ByteArray) := ⟨_, rfl⟩
  obtain ⟨X106, hX106⟩ : ∃ x, x = (⟨#[109, 97, 110, 49, 0, 0, 0, 1, 255]⟩ : ByteArray) := ⟨_, rfl⟩
  obtain ⟨X108, hX108⟩ : ∃ x, x = (⟨#[0, 0, 2, 2, 3, 0, 0, 0, 1, 120]⟩ : ByteArray) := ⟨_, rfl⟩
  obtain ⟨X109, hX109⟩ : ∃ x, x = (⟨#[109, 97, 110, 49, 0, 0, 0, 1, 255, 0, 0, 2, 2, 3, 0, 0, 0, 1, 120]⟩ : ByteArray) := ⟨_, rfl⟩
  obtain ⟨X111, hX111⟩ : ∃ x, x = (⟨#[109, 97, 110, 49, 0, 0, 0, 1, 0, 0, 0, 2]⟩ : ByteArray) := ⟨_, rfl⟩
  obtain ⟨X112, hX112⟩ : ∃ x, x = (⟨#[109, 97, 110, 49, 0, 0, 0, 1, 0, 0, 0, 2, 4]⟩ : ByteArray) := ⟨_, rfl⟩
  obtain ⟨X114, hX114⟩ : ∃ x, x = (⟨#[3, 0, 0, 0, 1, 120]⟩ : ByteArray) := ⟨_, rfl⟩
  obtain ⟨X115, hX115⟩ : ∃ x, x = (⟨#[109, 97, 110, 49, 0, 0, 0, 1, 0, 0, 0, 2, 4, 3, 0, 0, 0, 1, 120]⟩ : ByteArray) := ⟨_, rfl⟩
  obtain ⟨X117, hX117⟩ : ∃ x, x = (⟨#[109, 97, 110, 49, 0, 0, 0, 1, 0, 0, 0, 2]⟩ : ByteArray) := ⟨_, rfl⟩
  obtain ⟨X118, hX118⟩ : ∃ x, x = (⟨#[109, 97, 110, 49, 0, 0, 0, 1, 0, 0, 0, 2, 0]⟩ : ByteArray) := ⟨_, rfl⟩
  obtain ⟨X120, hX120⟩ : ∃ x, x = (⟨#[3, 0, 0, 0, 1, 120]⟩ : ByteArray) := ⟨_, rfl⟩
  obtain ⟨X121, hX121⟩ : ∃ x, x = (⟨#[109, 97, 110, 49, 0, 0, 0, 1, 0, 0, 0, 2, 0, 3, 0, 0, 0, 1, 120]⟩ : ByteArray) := ⟨_, rfl⟩
  obtain ⟨X123, hX123⟩ : ∃ x, x = (⟨#[109, 97, 110, 49, 0, 0, 0, 1, 0, 0, 0, 2, 2]⟩ : ByteArray) := ⟨_, rfl⟩
  obtain ⟨X124, hX124⟩ : ∃ x, x = (⟨#[109, 97, 110, 49, 0, 0, 0, 1, 0, 0, 0, 2, 2, 13]⟩ : ByteArray) := ⟨_, rfl⟩
  obtain ⟨X126, hX126⟩ : ∃ x, x = (⟨#[0, 0, 0, 1, 120]⟩ : ByteArray) := ⟨_, rfl⟩
  obtain ⟨X127, hX127⟩ : ∃ x, x = (⟨#[109, 97, 110, 49, 0, 0, 0, 1, 0, 0, 0, 2, 2, 13, 0, 0, 0, 1, 120]⟩ : ByteArray) := ⟨_, rfl⟩
  obtain ⟨X129, hX129⟩ : ∃ x, x = (⟨#[109, 97, 110, 49, 0, 0, 0, 1, 0, 0, 0, 2, 2, 3, 0, 0, 0]⟩ : ByteArray) := ⟨_, rfl⟩
  obtain ⟨X130, hX130⟩ : ∃ x, x = (⟨#[109, 97, 110, 49, 0, 0, 0, 1, 0, 0, 0, 2, 2, 3, 0, 0, 0, 2, 120]⟩ : ByteArray) := ⟨_, rfl⟩
  obtain ⟨X132, hX132⟩ : ∃ x, x = (⟨#[109, 97, 110, 49, 0, 0, 0, 1, 0, 0, 0, 2, 2, 3]⟩ : ByteArray) := ⟨_, rfl⟩
  obtain ⟨X133, hX133⟩ : ∃ x, x = (⟨#[109, 97, 110, 49, 0, 0, 0, 1, 0, 0, 0, 2, 2, 3, 255, 255, 255, 255, 120]⟩ : ByteArray) := ⟨_, rfl⟩
  obtain ⟨X154, hX154⟩ : ∃ x, x = (⟨#[97, 110, 49, 0, 0, 0, 1, 0, 0, 0, 2, 2, 3, 0, 0, 0, 1, 120]⟩ : ByteArray) := ⟨_, rfl⟩
  have R93 : Hid (∀ wx : World, (Instr.slice 9 (.string G) (some (.int .i64 4)) none none).run Try.prog wx = .ok (.string X93) wx) := by
    show ∀ _, _
    rw [hG, hX93]
    exact str_back (⟨#[109, 97, 110, 49, 0, 0, 0, 1, 0, 0, 0, 2, 2, 3, 0, 0, 0, 1, 120]⟩ : ByteArray) 4 (by decide)
  have R94 : Hid (((⟨#[109, 97, 110, 50]⟩ : ByteArray) ++ X93 = X94) ∧ (9223372036854775807 < 4 + X93.size) = False) := by
    show _ ∧ _
    rw [hX93, hX94]
    exact ⟨by decide, eq_false (by decide)⟩
  have R96 : Hid ((G ++ (⟨#[121]⟩ : ByteArray) = X96) ∧ (9223372036854775807 < G.size + 1) = False) := by
    show _ ∧ _
    rw [hG, hX96]
    exact ⟨by decide, eq_false (by decide)⟩
  have R98 : Hid (∀ wx : World, (Instr.slice 9 (.string G) none (some (.int .i64 18)) none).run Try.prog wx = .ok (.string X98) wx) := by
    show ∀ _, _
    rw [hG, hX98]
    exact str_front (⟨#[109, 97, 110, 49, 0, 0, 0, 1, 0, 0, 0, 2, 2, 3, 0, 0, 0, 1, 120]⟩ : ByteArray) 18 (by decide)
  have R100 : Hid (∀ wx : World, (Instr.slice 9 (.string G) none (some (.int .i64 17)) none).run Try.prog wx = .ok (.string X100) wx) := by
    show ∀ _, _
    rw [hG, hX100]
    exact str_front (⟨#[109, 97, 110, 49, 0, 0, 0, 1, 0, 0, 0, 2, 2, 3, 0, 0, 0, 1, 120]⟩ : ByteArray) 17 (by decide)
  have R102 : Hid (∀ wx : World, (Instr.slice 9 (.string G) (some (.int .i64 5)) none none).run Try.prog wx = .ok (.string X102) wx) := by
    show ∀ _, _
    rw [hG, hX102]
    exact str_back (⟨#[109, 97, 110, 49, 0, 0, 0, 1, 0, 0, 0, 2, 2, 3, 0, 0, 0, 1, 120]⟩ : ByteArray) 5 (by decide)
  have R103 : Hid (((⟨#[109, 97, 110, 49, 128]⟩ : ByteArray) ++ X102 = X103) ∧ (9223372036854775807 < 5 + X102.size) = False) := by
    show _ ∧ _
    rw [hX102, hX103]
    exact ⟨by decide, eq_false (by decide)⟩
  have R105 : Hid (∀ wx : World, (Instr.slice 9 (.string G) none (some (.int .i64 8)) none).run Try.prog wx = .ok (.string X105) wx) := by
    show ∀ _, _
    rw [hG, hX105]
    exact str_front (⟨#[109, 97, 110, 49, 0, 0, 0, 1, 0, 0, 0, 2, 2, 3, 0, 0, 0, 1, 120]⟩ : ByteArray) 8 (by decide)
  have R106 : Hid ((X105 ++ (⟨#[255]⟩ : ByteArray) = X106) ∧ (9223372036854775807 < X105.size + 1) = False) := by
    show _ ∧ _
    rw [hX105, hX106]
    exact ⟨by decide, eq_false (by decide)⟩
  have R108 : Hid (∀ wx : World, (Instr.slice 9 (.string G) (some (.int .i64 9)) none none).run Try.prog wx = .ok (.string X108) wx) := by
    show ∀ _, _
    rw [hG, hX108]
    exact str_back (⟨#[109, 97, 110, 49, 0, 0, 0, 1, 0, 0, 0, 2, 2, 3, 0, 0, 0, 1, 120]⟩ : ByteArray) 9 (by decide)
  have R109 : Hid ((X106 ++ X108 = X109) ∧ (9223372036854775807 < X106.size + X108.size) = False) := by
    show _ ∧ _
    rw [hX106, hX108, hX109]
    exact ⟨by decide, eq_false (by decide)⟩
  have R111 : Hid (∀ wx : World, (Instr.slice 9 (.string G) none (some (.int .i64 12)) none).run Try.prog wx = .ok (.string X111) wx) := by
    show ∀ _, _
    rw [hG, hX111]
    exact str_front (⟨#[109, 97, 110, 49, 0, 0, 0, 1, 0, 0, 0, 2, 2, 3, 0, 0, 0, 1, 120]⟩ : ByteArray) 12 (by decide)
  have R112 : Hid ((X111 ++ (⟨#[4]⟩ : ByteArray) = X112) ∧ (9223372036854775807 < X111.size + 1) = False) := by
    show _ ∧ _
    rw [hX111, hX112]
    exact ⟨by decide, eq_false (by decide)⟩
  have R114 : Hid (∀ wx : World, (Instr.slice 9 (.string G) (some (.int .i64 13)) none none).run Try.prog wx = .ok (.string X114) wx) := by
    show ∀ _, _
    rw [hG, hX114]
    exact str_back (⟨#[109, 97, 110, 49, 0, 0, 0, 1, 0, 0, 0, 2, 2, 3, 0, 0, 0, 1, 120]⟩ : ByteArray) 13 (by decide)
  have R115 : Hid ((X112 ++ X114 = X115) ∧ (9223372036854775807 < X112.size + X114.size) = False) := by
    show _ ∧ _
    rw [hX112, hX114, hX115]
    exact ⟨by decide, eq_false (by decide)⟩
  have R117 : Hid (∀ wx : World, (Instr.slice 9 (.string G) none (some (.int .i64 12)) none).run Try.prog wx = .ok (.string X117) wx) := by
    show ∀ _, _
    rw [hG, hX117]
    exact str_front (⟨#[109, 97, 110, 49, 0, 0, 0, 1, 0, 0, 0, 2, 2, 3, 0, 0, 0, 1, 120]⟩ : ByteArray) 12 (by decide)
  have R118 : Hid ((X117 ++ (⟨#[0]⟩ : ByteArray) = X118) ∧ (9223372036854775807 < X117.size + 1) = False) := by
    show _ ∧ _
    rw [hX117, hX118]
    exact ⟨by decide, eq_false (by decide)⟩
  have R120 : Hid (∀ wx : World, (Instr.slice 9 (.string G) (some (.int .i64 13)) none none).run Try.prog wx = .ok (.string X120) wx) := by
    show ∀ _, _
    rw [hG, hX120]
    exact str_back (⟨#[109, 97, 110, 49, 0, 0, 0, 1, 0, 0, 0, 2, 2, 3, 0, 0, 0, 1, 120]⟩ : ByteArray) 13 (by decide)
  have R121 : Hid ((X118 ++ X120 = X121) ∧ (9223372036854775807 < X118.size + X120.size) = False) := by
    show _ ∧ _
    rw [hX118, hX120, hX121]
    exact ⟨by decide, eq_false (by decide)⟩
  have R123 : Hid (∀ wx : World, (Instr.slice 9 (.string G) none (some (.int .i64 13)) none).run Try.prog wx = .ok (.string X123) wx) := by
    show ∀ _, _
    rw [hG, hX123]
    exact str_front (⟨#[109, 97, 110, 49, 0, 0, 0, 1, 0, 0, 0, 2, 2, 3, 0, 0, 0, 1, 120]⟩ : ByteArray) 13 (by decide)
  have R124 : Hid ((X123 ++ (⟨#[13]⟩ : ByteArray) = X124) ∧ (9223372036854775807 < X123.size + 1) = False) := by
    show _ ∧ _
    rw [hX123, hX124]
    exact ⟨by decide, eq_false (by decide)⟩
  have R126 : Hid (∀ wx : World, (Instr.slice 9 (.string G) (some (.int .i64 14)) none none).run Try.prog wx = .ok (.string X126) wx) := by
    show ∀ _, _
    rw [hG, hX126]
    exact str_back (⟨#[109, 97, 110, 49, 0, 0, 0, 1, 0, 0, 0, 2, 2, 3, 0, 0, 0, 1, 120]⟩ : ByteArray) 14 (by decide)
  have R127 : Hid ((X124 ++ X126 = X127) ∧ (9223372036854775807 < X124.size + X126.size) = False) := by
    show _ ∧ _
    rw [hX124, hX126, hX127]
    exact ⟨by decide, eq_false (by decide)⟩
  have R129 : Hid (∀ wx : World, (Instr.slice 9 (.string G) none (some (.int .i64 17)) none).run Try.prog wx = .ok (.string X129) wx) := by
    show ∀ _, _
    rw [hG, hX129]
    exact str_front (⟨#[109, 97, 110, 49, 0, 0, 0, 1, 0, 0, 0, 2, 2, 3, 0, 0, 0, 1, 120]⟩ : ByteArray) 17 (by decide)
  have R130 : Hid ((X129 ++ (⟨#[2, 120]⟩ : ByteArray) = X130) ∧ (9223372036854775807 < X129.size + 2) = False) := by
    show _ ∧ _
    rw [hX129, hX130]
    exact ⟨by decide, eq_false (by decide)⟩
  have R132 : Hid (∀ wx : World, (Instr.slice 9 (.string G) none (some (.int .i64 14)) none).run Try.prog wx = .ok (.string X132) wx) := by
    show ∀ _, _
    rw [hG, hX132]
    exact str_front (⟨#[109, 97, 110, 49, 0, 0, 0, 1, 0, 0, 0, 2, 2, 3, 0, 0, 0, 1, 120]⟩ : ByteArray) 14 (by decide)
  have R133 : Hid ((X132 ++ (⟨#[255, 255, 255, 255, 120]⟩ : ByteArray) = X133) ∧ (9223372036854775807 < X132.size + 5) = False) := by
    show _ ∧ _
    rw [hX132, hX133]
    exact ⟨by decide, eq_false (by decide)⟩
  have R154 : Hid (∀ wx : World, (Instr.slice 9 (.string G) (some (.int .i64 1)) none none).run Try.prog wx = .ok (.string X154) wx) := by
    show ∀ _, _
    rw [hG, hX154]
    exact str_back (⟨#[109, 97, 110, 49, 0, 0, 0, 1, 0, 0, 0, 2, 2, 3, 0, 0, 0, 1, 120]⟩ : ByteArray) 1 (by decide)
  have HBD : Hid (∀ x ∈ ([⟨#[]⟩, ⟨#[109, 97, 110, 49]⟩, X94, X96, X98, X100, X103, X109, X115, X121, X127, X130, X133] : List ByteArray), x.size ≤ 100 ∧ readOk (sealF x.data.toList) = false) := by
    show ∀ _, _
    rw [hX100, hX103, hX109, hX115, hX121, hX127, hX130, hX133, hX94, hX96, hX98]
    decide
  have HSM1 := Lib.hid (fun wx => ssum_any X154 wx (by rw [hX154]; decide))
  have HSM2 := Lib.hid (fun wx => ssum_any G wx (by rw [hG]; decide))
  have hne : SH.sumB G.data.toList ≠ SH.sumB X154.data.toList := by
    rw [hG, hX154]
    exact sum_ne
  have hbs := bad_seal G X154 hne
  obtain ⟨V1, hV1⟩ : ∃ V, V = strB (SH.sumB X154.data.toList) := ⟨_, rfl⟩
  obtain ⟨V2, hV2⟩ : ∃ V, V = strB (SH.sumB G.data.toList) := ⟨_, rfl⟩
  have hg2 : (G ++ V2).data.toList = sealF (textF 1 2 2 3 [120]) := by rw [hV2, seal_app, hG]; rfl
  rw [← hV1] at hbs HSM1
  rw [← hV2] at HSM2
  have hv1 : V1.size = 32 := by rw [hV1, strB_size, SH.sumB_length]
  have hv2 : V2.size = 32 := by rw [hV2, strB_size, SH.sumB_length]
  have hgz : G.size = 19 := by rw [hG]; rfl
  have HRB := Lib.hid (fun wx => frread_any (G ++ V1) wx (by rw [ByteArray.size_append]; omega))
  rw [readF_no hbs] at HRB
  have HRG := Lib.hid (fun wx => frread_any (G ++ V2) wx (by rw [ByteArray.size_append]; omega))
  rw [hg2, readF_seal (ep := 1) (gen := 2) (k := 2) (n := 3) (body := [120]) (by decide) (by decide)] at HRG
  rw [show strB [120] = (⟨#[120]⟩ : ByteArray) from rfl] at HRG
  unfold frV at HRB HRG
  dsimp only at HRB HRG
  have HZV : Hid (G.size + V1.size ≤ 100 ∧ G.size + V2.size ≤ 100) := ⟨by omega, by omega⟩
  have HG : Hid (G = (⟨#[109, 97, 110, 49, 0, 0, 0, 1, 0, 0, 0, 2, 2, 3, 0, 0, 0, 1, 120]⟩ : ByteArray)) := hG
  clear hne hbs hV1 hV2 hg2 hv1 hv2 hgz
  clear hG hX93 hX94 hX96 hX98 hX100 hX102 hX103 hX105 hX106 hX108 hX109 hX111 hX112 hX114 hX115 hX117 hX118 hX120 hX121 hX123 hX124 hX126 hX127 hX129 hX130 hX132 hX133 hX154
  go_enter Try.func11, Try.ntmps11
  go_wp2_with fail
  refine Calls.mono (HWK.out _) ?_
  rintro e wa ⟨rfl, hka⟩
  have HKA := Lib.hid hka
  clear hka HWK
  go_wp2_with fail
  refine wp_region_stage [28, 29, 30, 31, 32, 33, 34, 35, 36, 37, 38, 39, 40, 41, 42, 43, 44, 45, 46, 47, 48, 49, 50, 51, 52, 53, 54, 55, 56, 57, 58] [[], [0], [], [2], [], [4], [], [6], [], [8], [], [10], [], [12], [], [14], [], [16], [17], [18], [], [20], [21], [22], [], [24], [25], [26], [1, 3, 5, 7, 9, 11, 13, 15, 19, 23, 27], [28], []] [] [0, 0, 0, 0, 0, 0, 0, 0, 0, 0, 0, 0, 0, 0, 0, 0, 0, 0, 0, 0, 0, 0, 0, 0, 0, 0, 0, 0, 0, 0, 0] [] (fn3 Z1 Z2 Z3) (fun w w' => Keeps w w') (fun _ _ w' => Keeps wa w') (by kernel_rfl) (by kernel_rfl) (by kernel_rfl) (by kernel_rfl) (by kernel_rfl) (by kernel_rfl) (by kernel_rfl) ?_ ?_ ?_ ?_ ?_ ?_ ?_
  · exact fun i v w w' c h => fn3_keeps i v w w' c h
  · exact fun w => keeps_refl w
  · exact fun i s vs w _ h => h
  · refine ⟨?_, ?_, ?_, ?_, ?_, ?_, ?_, ?_, ?_, ?_, ?_, ?_, ?_, ?_, ?_, ?_, ?_, ?_, ?_, ?_, ?_, ?_, ?_, ?_, ?_, ?_, ?_, ?_, ?_, ?_, ?_, trivial⟩
    · exact fun g b h => by (cases h)
    · exact fun g b h => by (cases h)
    · exact fun g b h => by (cases h)
    · exact fun g b h => by (cases h)
    · exact fun g b h => by (cases h)
    · exact fun g b h => by (cases h)
    · exact fun g b h => by (cases h)
    · exact fun g b h => by (cases h)
    · exact fun g b h => by (cases h)
    · exact fun g b h => by (cases h)
    · exact fun g b h => by (cases h)
    · exact fun g b h => by (cases h)
    · exact fun g b h => by (cases h)
    · exact fun g b h => by (cases h)
    · exact fun g b h => by (cases h)
    · exact fun g b h => by (cases h)
    · exact fun g b h => by (cases h)
    · exact fun g b h => by (cases h)
    · exact fun g b h => by (cases h)
    · exact fun g b h => by (cases h)
    · exact fun g b h => by (cases h)
    · exact fun g b h => by (cases h)
    · exact fun g b h => by (cases h)
    · exact fun g b h => by (cases h)
    · exact fun g b h => by (cases h)
    · exact fun g b h => by (cases h)
    · exact fun g b h => by (cases h)
    · exact fun g b h => by (cases h)
    · exact fun g b h => by (cases h)
    · exact fun g b h => by (cases h)
    · exact fun g b h => by (cases h)
  · exact fun _ _ => keeps_refl wa
  · refine ⟨?_, ?_, ?_, ?_, ?_, ?_, ?_, ?_, ?_, ?_, ?_, ?_, ?_, ?_, ?_, ?_, ?_, ?_, ?_, ?_, ?_, ?_, ?_, ?_, ?_, ?_, ?_, ?_, ?_, ?_, ?_, trivial⟩
    · intro _ a w1 vs hI ho hn hu K hK
      clear hn ho hu
      go_simp
      refine Calls.mono (HOF.out 0 0 1 1 ⟨#[]⟩ _) ?_
      rintro e w' ⟨rfl, hk2⟩
      go_simp
      exact hK _ _ hk2 (Keeps.trans hI hk2) rfl
    · intro _ a w1 vs hI ho hn hu K hK
      obtain ⟨e28, g28⟩ : a.tmps[28]? = some (vs 0) ∧ vs 0 = .agg #[.int .i64 0, .int .i64 0, .int .i64 1, .int .i64 1, .string ⟨#[]⟩] := hn 0 (by decide)
      rw [g28] at e28
      clear g28
      clear hn ho hu
      go_simp
      exact hK _ _ (keeps_refl _) hI rfl
    · intro _ a w1 vs hI ho hn hu K hK
      clear hn ho hu
      go_simp
      refine Calls.mono (HOF.out 2147483647 2147483647 12 12 ⟨#[98]⟩ _) ?_
      rintro e w' ⟨rfl, hk2⟩
      go_simp
      exact hK _ _ hk2 (Keeps.trans hI hk2) rfl
    · intro _ a w1 vs hI ho hn hu K hK
      obtain ⟨e30, g30⟩ : a.tmps[30]? = some (vs 2) ∧ vs 2 = .agg #[.int .i64 2147483647, .int .i64 2147483647, .int .i64 12, .int .i64 12, .string ⟨#[98]⟩] := hn 2 (by decide)
      rw [g30] at e30
      clear g30
      clear hn ho hu
      go_simp
      exact hK _ _ (keeps_refl _) hI rfl
    · intro _ a w1 vs hI ho hn hu K hK
      clear hn ho hu
      go_simp
      refine Calls.mono (HOF.out (-1) 0 1 1 ⟨#[]⟩ _) ?_
      rintro e w' ⟨rfl, hk2⟩
      go_simp
      exact hK _ _ hk2 (Keeps.trans hI hk2) rfl
    · intro _ a w1 vs hI ho hn hu K hK
      obtain ⟨e32, g32⟩ : a.tmps[32]? = some (vs 4) ∧ vs 4 = .agg #[.int .i64 (-1), .int .i64 0, .int .i64 1, .int .i64 1, .string ⟨#[]⟩] := hn 4 (by decide)
      rw [g32] at e32
      clear g32
      clear hn ho hu
      go_simp
      exact hK _ _ (keeps_refl _) hI rfl
    · intro _ a w1 vs hI ho hn hu K hK
      clear hn ho hu
      go_simp
      refine Calls.mono (HOF.out 0 (-1) 1 1 ⟨#[]⟩ _) ?_
      rintro e w' ⟨rfl, hk2⟩
      go_simp
      exact hK _ _ hk2 (Keeps.trans hI hk2) rfl
    · intro _ a w1 vs hI ho hn hu K hK
      obtain ⟨e34, g34⟩ : a.tmps[34]? = some (vs 6) ∧ vs 6 = .agg #[.int .i64 0, .int .i64 (-1), .int .i64 1, .int .i64 1, .string ⟨#[]⟩] := hn 6 (by decide)
      rw [g34] at e34
      clear g34
      clear hn ho hu
      go_simp
      exact hK _ _ (keeps_refl _) hI rfl
    · intro _ a w1 vs hI ho hn hu K hK
      clear hn ho hu
      go_simp
      refine Calls.mono (HOF.out 2147483648 0 1 1 ⟨#[]⟩ _) ?_
      rintro e w' ⟨rfl, hk2⟩
      go_simp
      exact hK _ _ hk2 (Keeps.trans hI hk2) rfl
    · intro _ a w1 vs hI ho hn hu K hK
      obtain ⟨e36, g36⟩ : a.tmps[36]? = some (vs 8) ∧ vs 8 = .agg #[.int .i64 2147483648, .int .i64 0, .int .i64 1, .int .i64 1, .string ⟨#[]⟩] := hn 8 (by decide)
      rw [g36] at e36
      clear g36
      clear hn ho hu
      go_simp
      exact hK _ _ (keeps_refl _) hI rfl
    · intro _ a w1 vs hI ho hn hu K hK
      clear hn ho hu
      go_simp
      refine Calls.mono (HOF.out 0 2147483648 1 1 ⟨#[]⟩ _) ?_
      rintro e w' ⟨rfl, hk2⟩
      go_simp
      exact hK _ _ hk2 (Keeps.trans hI hk2) rfl
    · intro _ a w1 vs hI ho hn hu K hK
      obtain ⟨e38, g38⟩ : a.tmps[38]? = some (vs 10) ∧ vs 10 = .agg #[.int .i64 0, .int .i64 2147483648, .int .i64 1, .int .i64 1, .string ⟨#[]⟩] := hn 10 (by decide)
      rw [g38] at e38
      clear g38
      clear hn ho hu
      go_simp
      exact hK _ _ (keeps_refl _) hI rfl
    · intro _ a w1 vs hI ho hn hu K hK
      clear hn ho hu
      go_simp
      refine Calls.mono (HOF.out 0 0 0 1 ⟨#[]⟩ _) ?_
      rintro e w' ⟨rfl, hk2⟩
      go_simp
      exact hK _ _ hk2 (Keeps.trans hI hk2) rfl
    · intro _ a w1 vs hI ho hn hu K hK
      obtain ⟨e40, g40⟩ : a.tmps[40]? = some (vs 12) ∧ vs 12 = .agg #[.int .i64 0, .int .i64 0, .int .i64 0, .int .i64 1, .string ⟨#[]⟩] := hn 12 (by decide)
      rw [g40] at e40
      clear g40
      clear hn ho hu
      go_simp
      exact hK _ _ (keeps_refl _) hI rfl
    · intro _ a w1 vs hI ho hn hu K hK
      clear hn ho hu
      go_simp
      refine Calls.mono (HOF.out 0 0 1 13 ⟨#[]⟩ _) ?_
      rintro e w' ⟨rfl, hk2⟩
      go_simp
      exact hK _ _ hk2 (Keeps.trans hI hk2) rfl
    · intro _ a w1 vs hI ho hn hu K hK
      obtain ⟨e42, g42⟩ : a.tmps[42]? = some (vs 14) ∧ vs 14 = .agg #[.int .i64 0, .int .i64 0, .int .i64 1, .int .i64 13, .string ⟨#[]⟩] := hn 14 (by decide)
      rw [g42] at e42
      clear g42
      clear hn ho hu
      go_simp
      exact hK _ _ (keeps_refl _) hI rfl
    · intro _ a w1 vs hI ho hn hu K hK
      clear hn ho hu
      obtain ⟨ob, hmk, hrow⟩ := HMK1.out w1
      go_simp
      exact hK _ _ (kal _ _) (Keeps.trans hI (kal _ _)) ⟨_, rfl, hrow⟩
    · intro _ a w1 vs hI ho hn hu K hK
      obtain ⟨e44, g44⟩ : a.tmps[44]? = some (vs 16) ∧ ∃ B, (vs 16) = .slice (some ⟨B, 0, none⟩) 65486 65486 ∧ RowAt w1.heap (vs 16) Z1.data.toList := hn 16 (by decide)
      clear hn ho hu
      obtain ⟨B, e9, h9⟩ := g44
      have cv := conv_row (P := Try.prog) (src := 59) (dst := 9) (e := 5) Try.underlying59 (by kernel_rfl) Try.underlying9 h9
      rw [e9] at e44 cv
      rw [strB_data] at cv
      go_simp
      exact hK _ _ (keeps_refl _) hI rfl
    · intro _ a w1 vs hI ho hn hu K hK
      obtain ⟨e45, g45⟩ : a.tmps[45]? = some (vs 17) ∧ vs 17 = .string Z1 := hn 17 (by decide)
      rw [g45] at e45
      clear g45
      clear hn ho hu
      go_simp
      refine Calls.mono (HOF.out 0 0 1 1 Z1 _) ?_
      rintro e w' ⟨rfl, hk2⟩
      go_simp
      exact hK _ _ hk2 (Keeps.trans hI hk2) rfl
    · intro _ a w1 vs hI ho hn hu K hK
      obtain ⟨e46, g46⟩ : a.tmps[46]? = some (vs 18) ∧ vs 18 = .agg #[.int .i64 0, .int .i64 0, .int .i64 1, .int .i64 1, .string Z1] := hn 18 (by decide)
      rw [g46] at e46
      clear g46
      clear hn ho hu
      go_simp
      exact hK _ _ (keeps_refl _) hI rfl
    · intro _ a w1 vs hI ho hn hu K hK
      clear hn ho hu
      obtain ⟨ob, hmk, hrow⟩ := HMK2.out w1
      go_simp
      exact hK _ _ (kal _ _) (Keeps.trans hI (kal _ _)) ⟨_, rfl, hrow⟩
    · intro _ a w1 vs hI ho hn hu K hK
      obtain ⟨e48, g48⟩ : a.tmps[48]? = some (vs 20) ∧ ∃ B, (vs 20) = .slice (some ⟨B, 0, none⟩) 65487 65487 ∧ RowAt w1.heap (vs 20) Z2.data.toList := hn 20 (by decide)
      clear hn ho hu
      obtain ⟨B, e9, h9⟩ := g48
      have cv := conv_row (P := Try.prog) (src := 59) (dst := 9) (e := 5) Try.underlying59 (by kernel_rfl) Try.underlying9 h9
      rw [e9] at e48 cv
      rw [strB_data] at cv
      go_simp
      exact hK _ _ (keeps_refl _) hI rfl
    · intro _ a w1 vs hI ho hn hu K hK
      obtain ⟨e49, g49⟩ : a.tmps[49]? = some (vs 21) ∧ vs 21 = .string Z2 := hn 21 (by decide)
      rw [g49] at e49
      clear g49
      clear hn ho hu
      go_simp
      refine Calls.mono (HOF.out 0 0 1 1 Z2 _) ?_
      rintro e w' ⟨rfl, hk2⟩
      go_simp
      exact hK _ _ hk2 (Keeps.trans hI hk2) rfl
    · intro _ a w1 vs hI ho hn hu K hK
      obtain ⟨e50, g50⟩ : a.tmps[50]? = some (vs 22) ∧ vs 22 = .agg #[.int .i64 0, .int .i64 0, .int .i64 1, .int .i64 1, .string Z2] := hn 22 (by decide)
      rw [g50] at e50
      clear g50
      clear hn ho hu
      go_simp
      exact hK _ _ (keeps_refl _) hI rfl
    · intro _ a w1 vs hI ho hn hu K hK
      clear hn ho hu
      obtain ⟨ob, hmk, hrow⟩ := HMK3.out w1
      go_simp
      exact hK _ _ (kal _ _) (Keeps.trans hI (kal _ _)) ⟨_, rfl, hrow⟩
    · intro _ a w1 vs hI ho hn hu K hK
      obtain ⟨e52, g52⟩ : a.tmps[52]? = some (vs 24) ∧ ∃ B, (vs 24) = .slice (some ⟨B, 0, none⟩) 70000 70000 ∧ RowAt w1.heap (vs 24) Z3.data.toList := hn 24 (by decide)
      clear hn ho hu
      obtain ⟨B, e9, h9⟩ := g52
      have cv := conv_row (P := Try.prog) (src := 59) (dst := 9) (e := 5) Try.underlying59 (by kernel_rfl) Try.underlying9 h9
      rw [e9] at e52 cv
      rw [strB_data] at cv
      go_simp
      exact hK _ _ (keeps_refl _) hI rfl
    · intro _ a w1 vs hI ho hn hu K hK
      obtain ⟨e53, g53⟩ : a.tmps[53]? = some (vs 25) ∧ vs 25 = .string Z3 := hn 25 (by decide)
      rw [g53] at e53
      clear g53
      clear hn ho hu
      go_simp
      refine Calls.mono (HOF.out 0 0 0 1 Z3 _) ?_
      rintro e w' ⟨rfl, hk2⟩
      go_simp
      exact hK _ _ hk2 (Keeps.trans hI hk2) rfl
    · intro _ a w1 vs hI ho hn hu K hK
      obtain ⟨e54, g54⟩ : a.tmps[54]? = some (vs 26) ∧ vs 26 = .agg #[.int .i64 0, .int .i64 0, .int .i64 0, .int .i64 1, .string Z3] := hn 26 (by decide)
      rw [g54] at e54
      clear g54
      clear hn ho hu
      go_simp
      exact hK _ _ (keeps_refl _) hI rfl
    · intro _ a w1 vs hI ho hn hu K hK
      obtain ⟨e29, g29⟩ : a.tmps[29]? = some (vs 1) ∧ vs 1 = .agg #[.int .i64 0, .int .i64 0, .int .i64 1, .int .i64 1, .string ⟨#[]⟩, .int .i64 0] := hn 1 (by decide)
      rw [g29] at e29
      clear g29
      obtain ⟨e31, g31⟩ : a.tmps[31]? = some (vs 3) ∧ vs 3 = .agg #[.int .i64 2147483647, .int .i64 2147483647, .int .i64 12, .int .i64 12, .string ⟨#[98]⟩, .int .i64 0] := hn 3 (by decide)
      rw [g31] at e31
      clear g31
      obtain ⟨e33, g33⟩ : a.tmps[33]? = some (vs 5) ∧ vs 5 = .agg #[.int .i64 (-1), .int .i64 0, .int .i64 1, .int .i64 1, .string ⟨#[]⟩, .int .i64 1] := hn 5 (by decide)
      rw [g33] at e33
      clear g33
      obtain ⟨e35, g35⟩ : a.tmps[35]? = some (vs 7) ∧ vs 7 = .agg #[.int .i64 0, .int .i64 (-1), .int .i64 1, .int .i64 1, .string ⟨#[]⟩, .int .i64 1] := hn 7 (by decide)
      rw [g35] at e35
      clear g35
      obtain ⟨e37, g37⟩ : a.tmps[37]? = some (vs 9) ∧ vs 9 = .agg #[.int .i64 2147483648, .int .i64 0, .int .i64 1, .int .i64 1, .string ⟨#[]⟩, .int .i64 1] := hn 9 (by decide)
      rw [g37] at e37
      clear g37
      obtain ⟨e39, g39⟩ : a.tmps[39]? = some (vs 11) ∧ vs 11 = .agg #[.int .i64 0, .int .i64 2147483648, .int .i64 1, .int .i64 1, .string ⟨#[]⟩, .int .i64 1] := hn 11 (by decide)
      rw [g39] at e39
      clear g39
      obtain ⟨e41, g41⟩ : a.tmps[41]? = some (vs 13) ∧ vs 13 = .agg #[.int .i64 0, .int .i64 0, .int .i64 0, .int .i64 1, .string ⟨#[]⟩, .int .i64 1] := hn 13 (by decide)
      rw [g41] at e41
      clear g41
      obtain ⟨e43, g43⟩ : a.tmps[43]? = some (vs 15) ∧ vs 15 = .agg #[.int .i64 0, .int .i64 0, .int .i64 1, .int .i64 13, .string ⟨#[]⟩, .int .i64 1] := hn 15 (by decide)
      rw [g43] at e43
      clear g43
      obtain ⟨e47, g47⟩ : a.tmps[47]? = some (vs 19) ∧ vs 19 = .agg #[.int .i64 0, .int .i64 0, .int .i64 1, .int .i64 1, .string Z1, .int .i64 0] := hn 19 (by decide)
      rw [g47] at e47
      clear g47
      obtain ⟨e51, g51⟩ : a.tmps[51]? = some (vs 23) ∧ vs 23 = .agg #[.int .i64 0, .int .i64 0, .int .i64 1, .int .i64 1, .string Z2, .int .i64 40] := hn 23 (by decide)
      rw [g51] at e51
      clear g51
      obtain ⟨e55, g55⟩ : a.tmps[55]? = some (vs 27) ∧ vs 27 = .agg #[.int .i64 0, .int .i64 0, .int .i64 0, .int .i64 1, .string Z3, .int .i64 1] := hn 27 (by decide)
      rw [g55] at e55
      clear g55
      clear hn ho hu
      have hbs := bs_tab Z1 Z2 Z3
      go_simp
      exact hK _ _ (kal _ _) (Keeps.trans hI (kal _ _)) ⟨_, rfl, heap_alloc_new _ _⟩
    · intro _ a w1 vs hI ho hn hu K hK
      obtain ⟨e56, g56⟩ : a.tmps[56]? = some (vs 28) ∧ ∃ B, (vs 28) = .slice (some ⟨B, 0, none⟩) 11 11 ∧ RowH w1 B (tabC Z1 Z2 Z3) 58 := hn 28 (by decide)
      clear hn ho hu
      obtain ⟨B, e9, h9⟩ := g56
      rw [e9] at e56
      go_simp
      exact hK _ _ (keeps_refl _) hI rfl
    · intro _ a w1 vs hI ho hn hu K hK
      clear hn ho hu
      go_simp
      exact hK _ _ (keeps_refl _) hI rfl
  · intro vs wE hI hG3
    obtain ⟨B, eB, hB⟩ := hG3 28 (by decide)
    have eL29 : vs 29 = .int .i64 11 := hG3 29 (by decide)
    have eL30 : vs 30 = .int .i64 0 := hG3 30 (by decide)
    have HKE := Lib.hid hI
    have HTAB := Lib.hid hB
    clear hG3 hI hB
    simp only [setAll, Nat.zero_add, Nat.reduceAdd, List.setIfInBounds_toArray, List.set_cons_zero, List.set_cons_succ, eB, eL29, eL30]
    clear eB eL29 eL30
    generalize vs 0 = y0 at *
    generalize vs 1 = y1 at *
    generalize vs 2 = y2 at *
    generalize vs 3 = y3 at *
    generalize vs 4 = y4 at *
    generalize vs 5 = y5 at *
    generalize vs 6 = y6 at *
    generalize vs 7 = y7 at *
    generalize vs 8 = y8 at *
    generalize vs 9 = y9 at *
    generalize vs 10 = y10 at *
    generalize vs 11 = y11 at *
    generalize vs 12 = y12 at *
    generalize vs 13 = y13 at *
    generalize vs 14 = y14 at *
    generalize vs 15 = y15 at *
    generalize vs 16 = y16 at *
    generalize vs 17 = y17 at *
    generalize vs 18 = y18 at *
    generalize vs 19 = y19 at *
    generalize vs 20 = y20 at *
    generalize vs 21 = y21 at *
    generalize vs 22 = y22 at *
    generalize vs 23 = y23 at *
    generalize vs 24 = y24 at *
    generalize vs 25 = y25 at *
    generalize vs 26 = y26 at *
    generalize vs 27 = y27 at *
    have HKB := Lib.hid (HKA.out.trans HKE.out)
    clear HKA HKE HMK1 HMK2 HMK3
    go_wp2_with fail
    go_loopw [58] (fun i wr => ∃ k : Nat, k ≤ 11 ∧ i = .int .i64 k ∧ Hid (Keeps w wr) ∧ Hid (RowH wr B (tabC Z1 Z2 Z3) 58)) (fun i _ => 11 - (intOf i).toNat)
    case atStart => exact ⟨0, by omega, rfl, HKB, HTAB⟩
    case round =>
      obtain ⟨k, hk, rfl, hK, hT⟩ := hrel
      by_cases hlt : k < 11
      · have i1 : (k : Int) < 11 := by omega
        have i0 : (0 : Int) ≤ (k : Int) := by omega
        obtain ⟨ep, gen, kk, n, b, er, ⟨t0, t1, t2, t3, t4, t5⟩, hb, hmk, hrd⟩ := HTB.out k hlt
        have d0 : (wr).cell? ⟨B, k * 6, none⟩ = some (.int .i64 ep) := (cell_of_row wr B (k * 6) _ _ _ hT.out).trans t0
        have d1 : (wr).cell? ⟨B, k * 6 + 1, none⟩ = some (.int .i64 gen) := (cell_of_row wr B (k * 6 + 1) _ _ _ hT.out).trans t1
        have d2 : (wr).cell? ⟨B, k * 6 + 2, none⟩ = some (.int .i64 kk) := (cell_of_row wr B (k * 6 + 2) _ _ _ hT.out).trans t2
        have d3 : (wr).cell? ⟨B, k * 6 + 3, none⟩ = some (.int .i64 n) := (cell_of_row wr B (k * 6 + 3) _ _ _ hT.out).trans t3
        have d4 : (wr).cell? ⟨B, k * 6 + 4, none⟩ = some (.string b) := (cell_of_row wr B (k * 6 + 4) _ _ _ hT.out).trans t4
        have d5 : (wr).cell? ⟨B, k * 6 + 5, none⟩ = some (.int .i64 er) := (cell_of_row wr B (k * 6 + 5) _ _ _ hT.out).trans t5
        have HM := Lib.hid (fun wx => frmake_any ep gen kk n b wx (by omega))
        rw [hmk] at HM
        obtain ⟨S, hS⟩ : ∃ S, S = (makeF ep gen kk n b).1 := ⟨_, rfl⟩
        rw [← hS] at HM hrd
        obtain ⟨g1, g2, g3, g4, g5, g6, hr⟩ := readF_shape2 S.data.toList
        have HRD := Lib.hid (fun wx => frread_any S wx (make_small ep gen kk n b S hS))
        rw [hr] at HRD
        unfold frV at HM HRD
        dsimp only at HRD
        have HRR : Hid (er = 0 → g1 = ep ∧ g2 = gen ∧ g3 = kk ∧ g4 = n ∧ g5 = b ∧ g6 = 0) := fun e => by
          have := hrd e
          rw [hr] at this
          unfold frV at this
          cases this
          exact ⟨rfl, rfl, rfl, rfl, rfl, rfl⟩
        clear t0 t1 t2 t3 t4 t5 hb hmk hrd hr hS
        have HX3 : Hid (RowH (wr.alloc (.cells (exA ep gen kk n b er) 58)) wr.heap.size (exA ep gen kk n b er) 58) := heap_alloc_new _ _
        have HK3 : Hid (Keeps w (wr.alloc (.cells (exA ep gen kk n b er) 58))) := hK.out.trans (kal _ _)
        have HT3 : Hid (RowH (wr.alloc (.cells (exA ep gen kk n b er) 58)) B (tabC Z1 Z2 Z3) 58) := hT.out.keeps (kal _ _)
        have e0 : (wr.alloc (.cells (exA ep gen kk n b er) 58)).cell? ⟨wr.heap.size, 0, none⟩ = some (.int .i64 ep) := cell_of_row _ _ 0 _ _ _ HX3.out
        have e1 : (wr.alloc (.cells (exA ep gen kk n b er) 58)).cell? ⟨wr.heap.size, 1, none⟩ = some (.int .i64 gen) := cell_of_row _ _ 1 _ _ _ HX3.out
        have e2 : (wr.alloc (.cells (exA ep gen kk n b er) 58)).cell? ⟨wr.heap.size, 2, none⟩ = some (.int .i64 kk) := cell_of_row _ _ 2 _ _ _ HX3.out
        have e3 : (wr.alloc (.cells (exA ep gen kk n b er) 58)).cell? ⟨wr.heap.size, 3, none⟩ = some (.int .i64 n) := cell_of_row _ _ 3 _ _ _ HX3.out
        have e4 : (wr.alloc (.cells (exA ep gen kk n b er) 58)).cell? ⟨wr.heap.size, 4, none⟩ = some (.string b) := cell_of_row _ _ 4 _ _ _ HX3.out
        have e5 : (wr.alloc (.cells (exA ep gen kk n b er) 58)).cell? ⟨wr.heap.size, 5, none⟩ = some (.int .i64 er) := cell_of_row _ _ 5 _ _ _ HX3.out
        go_wp2_with (refine wpList_store_row rfl 58 (.tmp 2) (.tmp 61) rfl wr.heap.size (exA ep gen kk n b er) rfl rfl 58 _ (heap_alloc_last wr _) (by kernel_rfl) rfl (exA_one ep gen kk n b er) ?_; rw [World.setRow_alloc_new])
        refine Calls.mono (HM.out _) ?_
        rintro e w4 ⟨rfl, hk⟩
        have HX4 : Hid (RowH w4 wr.heap.size (exA ep gen kk n b er) 58) := HX3.out.keeps hk
        have HK4 := Lib.hid (HK3.out.trans hk)
        have HT4 : Hid (RowH w4 B (tabC Z1 Z2 Z3) 58) := HT3.out.keeps hk
        clear hk HX3 HK3 HT3 HM d0 d1 d2 d3 d4 d5 e0 e1 e2 e3 e4 e5
        generalize wr.heap.size = N2 at *
        go_wp2_with fail
        refine Calls.mono (HRD.out _) ?_
        rintro e w5 ⟨rfl, hk⟩
        have HX6 : Hid (RowH (w5.alloc (.cells (frA g1 g2 g3 g4 g5) 47)) N2 (exA ep gen kk n b er) 58) := (HX4.out.keeps hk).keeps (kal _ _)
        have HK6 : Hid (Keeps w (w5.alloc (.cells (frA g1 g2 g3 g4 g5) 47))) := (HK4.out.trans hk).trans (kal _ _)
        have HT6 : Hid (RowH (w5.alloc (.cells (frA g1 g2 g3 g4 g5) 47)) B (tabC Z1 Z2 Z3) 58) := (HT4.out.keeps hk).keeps (kal _ _)
        have HF6 : Hid (FrRow (w5.alloc (.cells (frA g1 g2 g3 g4 g5) 47)) w5.heap.size g1 g2 g3 g4 g5) := heap_alloc_new _ _
        clear hk HX4 HK4 HT4 HRD
        have e0 : (w5.alloc (.cells (frA g1 g2 g3 g4 g5) 47)).cell? ⟨N2, 0, none⟩ = some (.int .i64 ep) := cell_of_row _ _ 0 _ _ _ HX6.out
        have e1 : (w5.alloc (.cells (frA g1 g2 g3 g4 g5) 47)).cell? ⟨N2, 1, none⟩ = some (.int .i64 gen) := cell_of_row _ _ 1 _ _ _ HX6.out
        have e2 : (w5.alloc (.cells (frA g1 g2 g3 g4 g5) 47)).cell? ⟨N2, 2, none⟩ = some (.int .i64 kk) := cell_of_row _ _ 2 _ _ _ HX6.out
        have e3 : (w5.alloc (.cells (frA g1 g2 g3 g4 g5) 47)).cell? ⟨N2, 3, none⟩ = some (.int .i64 n) := cell_of_row _ _ 3 _ _ _ HX6.out
        have e4 : (w5.alloc (.cells (frA g1 g2 g3 g4 g5) 47)).cell? ⟨N2, 4, none⟩ = some (.string b) := cell_of_row _ _ 4 _ _ _ HX6.out
        have e5 : (w5.alloc (.cells (frA g1 g2 g3 g4 g5) 47)).cell? ⟨N2, 5, none⟩ = some (.int .i64 er) := cell_of_row _ _ 5 _ _ _ HX6.out
        have f0 : (w5.alloc (.cells (frA g1 g2 g3 g4 g5) 47)).cell? ⟨w5.heap.size, 0, none⟩ = some (.int .i64 g1) := cell_of_row _ _ 0 _ _ _ HF6.out
        have f1 : (w5.alloc (.cells (frA g1 g2 g3 g4 g5) 47)).cell? ⟨w5.heap.size, 1, none⟩ = some (.int .i64 g2) := cell_of_row _ _ 1 _ _ _ HF6.out
        have f2 : (w5.alloc (.cells (frA g1 g2 g3 g4 g5) 47)).cell? ⟨w5.heap.size, 2, none⟩ = some (.int .i64 g3) := cell_of_row _ _ 2 _ _ _ HF6.out
        have f3 : (w5.alloc (.cells (frA g1 g2 g3 g4 g5) 47)).cell? ⟨w5.heap.size, 3, none⟩ = some (.int .i64 g4) := cell_of_row _ _ 3 _ _ _ HF6.out
        have f4 : (w5.alloc (.cells (frA g1 g2 g3 g4 g5) 47)).cell? ⟨w5.heap.size, 4, none⟩ = some (.string g5) := cell_of_row _ _ 4 _ _ _ HF6.out
        by_cases he : er = 0
        · obtain ⟨rfl, rfl, rfl, rfl, rfl, rfl⟩ := HRR.out he
          subst he
          have q1 : (g5.toList == g5.toList) = true := by rw [txt_eq]; exact decide_eq_true rfl
          clear HRR
          go_wp2_with (refine wpList_store_row rfl 47 (.tmp 5) (.tmp 71) rfl w5.heap.size (frA g1 g2 g3 g4 g5) rfl rfl 47 _ (heap_alloc_last w5 _) (by kernel_rfl) rfl (frA_one g1 g2 g3 g4 g5) ?_; rw [World.setRow_alloc_new])
          refine ⟨?_, by simp [intOf]; omega⟩
          first | exact ⟨k + 1, by omega, by go_num, HK6, HT6⟩ | ((repeat apply Exists.intro); exact ⟨by omega, by go_num, HK6, HT6⟩)
        · have k5 : (er != 0) = true := by rw [bne_iff_ne]; exact he
          have k6 : decide (er = 0) = false := decide_eq_false he
          have k7 : (er == 0) = false := beq_eq_false_iff_ne.2 he
          clear HRR he
          go_wp2_with (refine wpList_store_row rfl 47 (.tmp 5) (.tmp 71) rfl w5.heap.size (frA g1 g2 g3 g4 g5) rfl rfl 47 _ (heap_alloc_last w5 _) (by kernel_rfl) rfl (frA_one g1 g2 g3 g4 g5) ?_; rw [World.setRow_alloc_new])
          refine ⟨?_, by simp [intOf]; omega⟩
          first | exact ⟨k + 1, by omega, by go_num, HK6, HT6⟩ | ((repeat apply Exists.intro); exact ⟨by omega, by go_num, HK6, HT6⟩)
      · obtain rfl : k = 11 := by omega
        clear HTB hT hlt hk
        go_wp2_with fail
        rw [← HG.out]
        clear HG
        refine wp_region_stage [92, 93, 94, 95, 96, 97, 98, 99, 100, 101, 102, 103, 104, 105, 106, 107, 108, 109, 110, 111, 112, 113, 114, 115, 116, 117, 118, 119, 120, 121, 122, 123, 124, 125, 126, 127, 128, 129, 130, 131, 132, 133, 134, 135, 136] [[], [0], [1], [], [3], [], [5], [], [7], [], [9], [10], [], [12], [13], [], [15], [14, 16], [], [18], [19], [], [21], [20, 22], [], [24], [25], [], [27], [26, 28], [], [30], [31], [], [33], [32, 34], [], [36], [37], [], [39], [40], [2, 4, 6, 8, 11, 17, 23, 29, 35, 38, 41], [42], []] [] [0, 0, 0, 0, 0, 0, 0, 0, 0, 0, 0, 0, 0, 0, 0, 0, 0, 0, 0, 0, 0, 0, 0, 0, 0, 0, 0, 0, 0, 0, 0, 0, 0, 0, 0, 0, 0, 0, 0, 0, 0, 0, 0, 0, 0] [] (fn12 G X93 X94 X96 X98 X100 X102 X103 X105 X106 X108 X109 X111 X112 X114 X115 X117 X118 X120 X121 X123 X124 X126 X127 X129 X130 X132 X133) (fun w w' => Keeps w w') (fun _ _ w' => Keeps wr w') (by kernel_rfl) (by kernel_rfl) (by kernel_rfl) (by kernel_rfl) (by kernel_rfl) (by kernel_rfl) (by kernel_rfl) ?_ ?_ ?_ ?_ ?_ ?_ ?_
        · exact fun i v w w' c h => fn12_keeps i v w w' c h
        · exact fun w => keeps_refl w
        · exact fun i s vs w _ h => h
        · refine ⟨?_, ?_, ?_, ?_, ?_, ?_, ?_, ?_, ?_, ?_, ?_, ?_, ?_, ?_, ?_, ?_, ?_, ?_, ?_, ?_, ?_, ?_, ?_, ?_, ?_, ?_, ?_, ?_, ?_, ?_, ?_, ?_, ?_, ?_, ?_, ?_, ?_, ?_, ?_, ?_, ?_, ?_, ?_, ?_, ?_, trivial⟩
          · exact fun g b h => by (cases h)
          · exact fun g b h => by (cases h)
          · exact fun g b h => by (cases h)
          · exact fun g b h => by (cases h)
          · exact fun g b h => by (cases h)
          · exact fun g b h => by (cases h)
          · exact fun g b h => by (cases h)
          · exact fun g b h => by (cases h)
          · exact fun g b h => by (cases h)
          · exact fun g b h => by (cases h)
          · exact fun g b h => by (cases h)
          · exact fun g b h => by (cases h)
          · exact fun g b h => by (cases h)
          · exact fun g b h => by (cases h)
          · exact fun g b h => by (cases h)
          · exact fun g b h => by (cases h)
          · exact fun g b h => by (cases h)
          · exact fun g b h => by (cases h)
          · exact fun g b h => by (cases h)
          · exact fun g b h => by (cases h)
          · exact fun g b h => by (cases h)
          · exact fun g b h => by (cases h)
          · exact fun g b h => by (cases h)
          · exact fun g b h => by (cases h)
          · exact fun g b h => by (cases h)
          · exact fun g b h => by (cases h)
          · exact fun g b h => by (cases h)
          · exact fun g b h => by (cases h)
          · exact fun g b h => by (cases h)
          · exact fun g b h => by (cases h)
          · exact fun g b h => by (cases h)
          · exact fun g b h => by (cases h)
          · exact fun g b h => by (cases h)
          · exact fun g b h => by (cases h)
          · exact fun g b h => by (cases h)
          · exact fun g b h => by (cases h)
          · exact fun g b h => by (cases h)
          · exact fun g b h => by (cases h)
          · exact fun g b h => by (cases h)
          · exact fun g b h => by (cases h)
          · exact fun g b h => by (cases h)
          · exact fun g b h => by (cases h)
          · exact fun g b h => by (cases h)
          · exact fun g b h => by (cases h)
          · exact fun g b h => by (cases h)
        · exact fun _ _ => keeps_refl wr
        · refine ⟨?_, ?_, ?_, ?_, ?_, ?_, ?_, ?_, ?_, ?_, ?_, ?_, ?_, ?_, ?_, ?_, ?_, ?_, ?_, ?_, ?_, ?_, ?_, ?_, ?_, ?_, ?_, ?_, ?_, ?_, ?_, ?_, ?_, ?_, ?_, ?_, ?_, ?_, ?_, ?_, ?_, ?_, ?_, ?_, ?_, trivial⟩
          · intro _ a w1 vs hI ho hn hu K hK
            have e7 : a.tmps[7]? = some (.string G) := ho 7 rfl
            clear hn ho hu
            go_simp
            exact hK _ _ (keeps_refl _) hI rfl
          · intro _ a w1 vs hI ho hn hu K hK
            obtain ⟨e92, g92⟩ : a.tmps[92]? = some (vs 0) ∧ vs 0 = .string G := hn 0 (by decide)
            rw [g92] at e92
            clear g92
            clear hn ho hu
            have c := R93.out
            go_simp
            exact hK _ _ (keeps_refl _) hI rfl
          · intro _ a w1 vs hI ho hn hu K hK
            obtain ⟨e93, g93⟩ : a.tmps[93]? = some (vs 1) ∧ vs 1 = .string X93 := hn 1 (by decide)
            rw [g93] at e93
            clear g93
            clear hn ho hu
            obtain ⟨c1, c2⟩ := R94.out
            go_simp
            exact hK _ _ (keeps_refl _) hI rfl
          · intro _ a w1 vs hI ho hn hu K hK
            have e7 : a.tmps[7]? = some (.string G) := ho 7 rfl
            clear hn ho hu
            go_simp
            exact hK _ _ (keeps_refl _) hI rfl
          · intro _ a w1 vs hI ho hn hu K hK
            obtain ⟨e95, g95⟩ : a.tmps[95]? = some (vs 3) ∧ vs 3 = .string G := hn 3 (by decide)
            rw [g95] at e95
            clear g95
            clear hn ho hu
            obtain ⟨c1, c2⟩ := R96.out
            go_simp
            exact hK _ _ (keeps_refl _) hI rfl
          · intro _ a w1 vs hI ho hn hu K hK
            have e7 : a.tmps[7]? = some (.string G) := ho 7 rfl
            clear hn ho hu
            go_simp
            exact hK _ _ (keeps_refl _) hI rfl
          · intro _ a w1 vs hI ho hn hu K hK
            obtain ⟨e97, g97⟩ : a.tmps[97]? = some (vs 5) ∧ vs 5 = .string G := hn 5 (by decide)
            rw [g97] at e97
            clear g97
            clear hn ho hu
            have c := R98.out
            go_simp
            exact hK _ _ (keeps_refl _) hI rfl
          · intro _ a w1 vs hI ho hn hu K hK
            have e7 : a.tmps[7]? = some (.string G) := ho 7 rfl
            clear hn ho hu
            go_simp
            exact hK _ _ (keeps_refl _) hI rfl
          · intro _ a w1 vs hI ho hn hu K hK
            obtain ⟨e99, g99⟩ : a.tmps[99]? = some (vs 7) ∧ vs 7 = .string G := hn 7 (by decide)
            rw [g99] at e99
            clear g99
            clear hn ho hu
            have c := R100.out
            go_simp
            exact hK _ _ (keeps_refl _) hI rfl
          · intro _ a w1 vs hI ho hn hu K hK
            have e7 : a.tmps[7]? = some (.string G) := ho 7 rfl
            clear hn ho hu
            go_simp
            exact hK _ _ (keeps_refl _) hI rfl
          · intro _ a w1 vs hI ho hn hu K hK
            obtain ⟨e101, g101⟩ : a.tmps[101]? = some (vs 9) ∧ vs 9 = .string G := hn 9 (by decide)
            rw [g101] at e101
            clear g101
            clear hn ho hu
            have c := R102.out
            go_simp
            exact hK _ _ (keeps_refl _) hI rfl
          · intro _ a w1 vs hI ho hn hu K hK
            obtain ⟨e102, g102⟩ : a.tmps[102]? = some (vs 10) ∧ vs 10 = .string X102 := hn 10 (by decide)
            rw [g102] at e102
            clear g102
            clear hn ho hu
            obtain ⟨c1, c2⟩ := R103.out
            go_simp
            exact hK _ _ (keeps_refl _) hI rfl
          · intro _ a w1 vs hI ho hn hu K hK
            have e7 : a.tmps[7]? = some (.string G) := ho 7 rfl
            clear hn ho hu
            go_simp
            exact hK _ _ (keeps_refl _) hI rfl
          · intro _ a w1 vs hI ho hn hu K hK
            obtain ⟨e104, g104⟩ : a.tmps[104]? = some (vs 12) ∧ vs 12 = .string G := hn 12 (by decide)
            rw [g104] at e104
            clear g104
            clear hn ho hu
            have c := R105.out
            go_simp
            exact hK _ _ (keeps_refl _) hI rfl
          · intro _ a w1 vs hI ho hn hu K hK
            obtain ⟨e105, g105⟩ : a.tmps[105]? = some (vs 13) ∧ vs 13 = .string X105 := hn 13 (by decide)
            rw [g105] at e105
            clear g105
            clear hn ho hu
            obtain ⟨c1, c2⟩ := R106.out
            go_simp
            exact hK _ _ (keeps_refl _) hI rfl
          · intro _ a w1 vs hI ho hn hu K hK
            have e7 : a.tmps[7]? = some (.string G) := ho 7 rfl
            clear hn ho hu
            go_simp
            exact hK _ _ (keeps_refl _) hI rfl
          · intro _ a w1 vs hI ho hn hu K hK
            obtain ⟨e107, g107⟩ : a.tmps[107]? = some (vs 15) ∧ vs 15 = .string G := hn 15 (by decide)
            rw [g107] at e107
            clear g107
            clear hn ho hu
            have c := R108.out
            go_simp
            exact hK _ _ (keeps_refl _) hI rfl
          · intro _ a w1 vs hI ho hn hu K hK
            obtain ⟨e106, g106⟩ : a.tmps[106]? = some (vs 14) ∧ vs 14 = .string X106 := hn 14 (by decide)
            rw [g106] at e106
            clear g106
            obtain ⟨e108, g108⟩ : a.tmps[108]? = some (vs 16) ∧ vs 16 = .string X108 := hn 16 (by decide)
            rw [g108] at e108
            clear g108
            clear hn ho hu
            obtain ⟨c1, c2⟩ := R109.out
            go_simp
            exact hK _ _ (keeps_refl _) hI rfl
          · intro _ a w1 vs hI ho hn hu K hK
            have e7 : a.tmps[7]? = some (.string G) := ho 7 rfl
            clear hn ho hu
            go_simp
            exact hK _ _ (keeps_refl _) hI rfl
          · intro _ a w1 vs hI ho hn hu K hK
            obtain ⟨e110, g110⟩ : a.tmps[110]? = some (vs 18) ∧ vs 18 = .string G := hn 18 (by decide)
            rw [g110] at e110
            clear g110
            clear hn ho hu
            have c := R111.out
            go_simp
            exact hK _ _ (keeps_refl _) hI rfl
          · intro _ a w1 vs hI ho hn hu K hK
            obtain ⟨e111, g111⟩ : a.tmps[111]? = some (vs 19) ∧ vs 19 = .string X111 := hn 19 (by decide)
            rw [g111] at e111
            clear g111
            clear hn ho hu
            obtain ⟨c1, c2⟩ := R112.out
            go_simp
            exact hK _ _ (keeps_refl _) hI rfl
          · intro _ a w1 vs hI ho hn hu K hK
            have e7 : a.tmps[7]? = some (.string G) := ho 7 rfl
            clear hn ho hu
            go_simp
            exact hK _ _ (keeps_refl _) hI rfl
          · intro _ a w1 vs hI ho hn hu K hK
            obtain ⟨e113, g113⟩ : a.tmps[113]? = some (vs 21) ∧ vs 21 = .string G := hn 21 (by decide)
            rw [g113] at e113
            clear g113
            clear hn ho hu
            have c := R114.out
            go_simp
            exact hK _ _ (keeps_refl _) hI rfl
          · intro _ a w1 vs hI ho hn hu K hK
            obtain ⟨e112, g112⟩ : a.tmps[112]? = some (vs 20) ∧ vs 20 = .string X112 := hn 20 (by decide)
            rw [g112] at e112
            clear g112
            obtain ⟨e114, g114⟩ : a.tmps[114]? = some (vs 22) ∧ vs 22 = .string X114 := hn 22 (by decide)
            rw [g114] at e114
            clear g114
            clear hn ho hu
            obtain ⟨c1, c2⟩ := R115.out
            go_simp
            exact hK _ _ (keeps_refl _) hI rfl
          · intro _ a w1 vs hI ho hn hu K hK
            have e7 : a.tmps[7]? = some (.string G) := ho 7 rfl
            clear hn ho hu
            go_simp
            exact hK _ _ (keeps_refl _) hI rfl
          · intro _ a w1 vs hI ho hn hu K hK
            obtain ⟨e116, g116⟩ : a.tmps[116]? = some (vs 24) ∧ vs 24 = .string G := hn 24 (by decide)
            rw [g116] at e116
            clear g116
            clear hn ho hu
            have c := R117.out
            go_simp
            exact hK _ _ (keeps_refl _) hI rfl
          · intro _ a w1 vs hI ho hn hu K hK
            obtain ⟨e117, g117⟩ : a.tmps[117]? = some (vs 25) ∧ vs 25 = .string X117 := hn 25 (by decide)
            rw [g117] at e117
            clear g117
            clear hn ho hu
            obtain ⟨c1, c2⟩ := R118.out
            go_simp
            exact hK _ _ (keeps_refl _) hI rfl
          · intro _ a w1 vs hI ho hn hu K hK
            have e7 : a.tmps[7]? = some (.string G) := ho 7 rfl
            clear hn ho hu
            go_simp
            exact hK _ _ (keeps_refl _) hI rfl
          · intro _ a w1 vs hI ho hn hu K hK
            obtain ⟨e119, g119⟩ : a.tmps[119]? = some (vs 27) ∧ vs 27 = .string G := hn 27 (by decide)
            rw [g119] at e119
            clear g119
            clear hn ho hu
            have c := R120.out
            go_simp
            exact hK _ _ (keeps_refl _) hI rfl
          · intro _ a w1 vs hI ho hn hu K hK
            obtain ⟨e118, g118⟩ : a.tmps[118]? = some (vs 26) ∧ vs 26 = .string X118 := hn 26 (by decide)
            rw [g118] at e118
            clear g118
            obtain ⟨e120, g120⟩ : a.tmps[120]? = some (vs 28) ∧ vs 28 = .string X120 := hn 28 (by decide)
            rw [g120] at e120
            clear g120
            clear hn ho hu
            obtain ⟨c1, c2⟩ := R121.out
            go_simp
            exact hK _ _ (keeps_refl _) hI rfl
          · intro _ a w1 vs hI ho hn hu K hK
            have e7 : a.tmps[7]? = some (.string G) := ho 7 rfl
            clear hn ho hu
            go_simp
            exact hK _ _ (keeps_refl _) hI rfl
          · intro _ a w1 vs hI ho hn hu K hK
            obtain ⟨e122, g122⟩ : a.tmps[122]? = some (vs 30) ∧ vs 30 = .string G := hn 30 (by decide)
            rw [g122] at e122
            clear g122
            clear hn ho hu
            have c := R123.out
            go_simp
            exact hK _ _ (keeps_refl _) hI rfl
          · intro _ a w1 vs hI ho hn hu K hK
            obtain ⟨e123, g123⟩ : a.tmps[123]? = some (vs 31) ∧ vs 31 = .string X123 := hn 31 (by decide)
            rw [g123] at e123
            clear g123
            clear hn ho hu
            obtain ⟨c1, c2⟩ := R124.out
            go_simp
            exact hK _ _ (keeps_refl _) hI rfl
          · intro _ a w1 vs hI ho hn hu K hK
            have e7 : a.tmps[7]? = some (.string G) := ho 7 rfl
            clear hn ho hu
            go_simp
            exact hK _ _ (keeps_refl _) hI rfl
          · intro _ a w1 vs hI ho hn hu K hK
            obtain ⟨e125, g125⟩ : a.tmps[125]? = some (vs 33) ∧ vs 33 = .string G := hn 33 (by decide)
            rw [g125] at e125
            clear g125
            clear hn ho hu
            have c := R126.out
            go_simp
            exact hK _ _ (keeps_refl _) hI rfl
          · intro _ a w1 vs hI ho hn hu K hK
            obtain ⟨e124, g124⟩ : a.tmps[124]? = some (vs 32) ∧ vs 32 = .string X124 := hn 32 (by decide)
            rw [g124] at e124
            clear g124
            obtain ⟨e126, g126⟩ : a.tmps[126]? = some (vs 34) ∧ vs 34 = .string X126 := hn 34 (by decide)
            rw [g126] at e126
            clear g126
            clear hn ho hu
            obtain ⟨c1, c2⟩ := R127.out
            go_simp
            exact hK _ _ (keeps_refl _) hI rfl
          · intro _ a w1 vs hI ho hn hu K hK
            have e7 : a.tmps[7]? = some (.string G) := ho 7 rfl
            clear hn ho hu
            go_simp
            exact hK _ _ (keeps_refl _) hI rfl
          · intro _ a w1 vs hI ho hn hu K hK
            obtain ⟨e128, g128⟩ : a.tmps[128]? = some (vs 36) ∧ vs 36 = .string G := hn 36 (by decide)
            rw [g128] at e128
            clear g128
            clear hn ho hu
            have c := R129.out
            go_simp
            exact hK _ _ (keeps_refl _) hI rfl
          · intro _ a w1 vs hI ho hn hu K hK
            obtain ⟨e129, g129⟩ : a.tmps[129]? = some (vs 37) ∧ vs 37 = .string X129 := hn 37 (by decide)
            rw [g129] at e129
            clear g129
            clear hn ho hu
            obtain ⟨c1, c2⟩ := R130.out
            go_simp
            exact hK _ _ (keeps_refl _) hI rfl
          · intro _ a w1 vs hI ho hn hu K hK
            have e7 : a.tmps[7]? = some (.string G) := ho 7 rfl
            clear hn ho hu
            go_simp
            exact hK _ _ (keeps_refl _) hI rfl
          · intro _ a w1 vs hI ho hn hu K hK
            obtain ⟨e131, g131⟩ : a.tmps[131]? = some (vs 39) ∧ vs 39 = .string G := hn 39 (by decide)
            rw [g131] at e131
            clear g131
            clear hn ho hu
            have c := R132.out
            go_simp
            exact hK _ _ (keeps_refl _) hI rfl
          · intro _ a w1 vs hI ho hn hu K hK
            obtain ⟨e132, g132⟩ : a.tmps[132]? = some (vs 40) ∧ vs 40 = .string X132 := hn 40 (by decide)
            rw [g132] at e132
            clear g132
            clear hn ho hu
            obtain ⟨c1, c2⟩ := R133.out
            go_simp
            exact hK _ _ (keeps_refl _) hI rfl
          · intro _ a w1 vs hI ho hn hu K hK
            obtain ⟨e94, g94⟩ : a.tmps[94]? = some (vs 2) ∧ vs 2 = .string X94 := hn 2 (by decide)
            rw [g94] at e94
            clear g94
            obtain ⟨e96, g96⟩ : a.tmps[96]? = some (vs 4) ∧ vs 4 = .string X96 := hn 4 (by decide)
            rw [g96] at e96
            clear g96
            obtain ⟨e98, g98⟩ : a.tmps[98]? = some (vs 6) ∧ vs 6 = .string X98 := hn 6 (by decide)
            rw [g98] at e98
            clear g98
            obtain ⟨e100, g100⟩ : a.tmps[100]? = some (vs 8) ∧ vs 8 = .string X100 := hn 8 (by decide)
            rw [g100] at e100
            clear g100
            obtain ⟨e103, g103⟩ : a.tmps[103]? = some (vs 11) ∧ vs 11 = .string X103 := hn 11 (by decide)
            rw [g103] at e103
            clear g103
            obtain ⟨e109, g109⟩ : a.tmps[109]? = some (vs 17) ∧ vs 17 = .string X109 := hn 17 (by decide)
            rw [g109] at e109
            clear g109
            obtain ⟨e115, g115⟩ : a.tmps[115]? = some (vs 23) ∧ vs 23 = .string X115 := hn 23 (by decide)
            rw [g115] at e115
            clear g115
            obtain ⟨e121, g121⟩ : a.tmps[121]? = some (vs 29) ∧ vs 29 = .string X121 := hn 29 (by decide)
            rw [g121] at e121
            clear g121
            obtain ⟨e127, g127⟩ : a.tmps[127]? = some (vs 35) ∧ vs 35 = .string X127 := hn 35 (by decide)
            rw [g127] at e127
            clear g127
            obtain ⟨e130, g130⟩ : a.tmps[130]? = some (vs 38) ∧ vs 38 = .string X130 := hn 38 (by decide)
            rw [g130] at e130
            clear g130
            obtain ⟨e133, g133⟩ : a.tmps[133]? = some (vs 41) ∧ vs 41 = .string X133 := hn 41 (by decide)
            rw [g133] at e133
            clear g133
            clear hn ho hu
            go_simp
            exact hK _ _ (kal _ _) (Keeps.trans hI (kal _ _)) ⟨_, rfl, heap_alloc_new _ _⟩
          · intro _ a w1 vs hI ho hn hu K hK
            obtain ⟨e134, g134⟩ : a.tmps[134]? = some (vs 42) ∧ ∃ B, (vs 42) = .slice (some ⟨B, 0, none⟩) 13 13 ∧ RowH w1 B #[.string ⟨#[]⟩, .string ⟨#[109, 97, 110, 49]⟩, .string X94, .string X96, .string X98, .string X100, .string X103, .string X109, .string X115, .string X121, .string X127, .string X130, .string X133] 9 := hn 42 (by decide)
            clear hn ho hu
            obtain ⟨B, e9, h9⟩ := g134
            rw [e9] at e134
            go_simp
            exact hK _ _ (keeps_refl _) hI rfl
          · intro _ a w1 vs hI ho hn hu K hK
            clear hn ho hu
            go_simp
            exact hK _ _ (keeps_refl _) hI rfl
        · intro vs wE hI hG12
          obtain ⟨B2, eB, hB⟩ := hG12 42 (by decide)
          have eL43 : vs 43 = .int .i64 13 := hG12 43 (by decide)
          have eL44 : vs 44 = .int .i64 0 := hG12 44 (by decide)
          have HKE := Lib.hid (Keeps.trans hK.out hI)
          have HTX := Lib.hid (row_texts [⟨#[]⟩, ⟨#[109, 97, 110, 49]⟩, X94, X96, X98, X100, X103, X109, X115, X121, X127, X130, X133] hB (by simp))
          clear hG12 hI hB hK
          simp only [setAll, Nat.zero_add, Nat.reduceAdd, List.setIfInBounds_toArray, List.set_cons_zero, List.set_cons_succ, eB, eL43, eL44]
          clear eB eL43 eL44
          generalize vs 0 = y0 at *
          generalize vs 1 = y1 at *
          generalize vs 2 = y2 at *
          generalize vs 3 = y3 at *
          generalize vs 4 = y4 at *
          generalize vs 5 = y5 at *
          generalize vs 6 = y6 at *
          generalize vs 7 = y7 at *
          generalize vs 8 = y8 at *
          generalize vs 9 = y9 at *
          generalize vs 10 = y10 at *
          generalize vs 11 = y11 at *
          generalize vs 12 = y12 at *
          generalize vs 13 = y13 at *
          generalize vs 14 = y14 at *
          generalize vs 15 = y15 at *
          generalize vs 16 = y16 at *
          generalize vs 17 = y17 at *
          generalize vs 18 = y18 at *
          generalize vs 19 = y19 at *
          generalize vs 20 = y20 at *
          generalize vs 21 = y21 at *
          generalize vs 22 = y22 at *
          generalize vs 23 = y23 at *
          generalize vs 24 = y24 at *
          generalize vs 25 = y25 at *
          generalize vs 26 = y26 at *
          generalize vs 27 = y27 at *
          generalize vs 28 = y28 at *
          generalize vs 29 = y29 at *
          generalize vs 30 = y30 at *
          generalize vs 31 = y31 at *
          generalize vs 32 = y32 at *
          generalize vs 33 = y33 at *
          generalize vs 34 = y34 at *
          generalize vs 35 = y35 at *
          generalize vs 36 = y36 at *
          generalize vs 37 = y37 at *
          generalize vs 38 = y38 at *
          generalize vs 39 = y39 at *
          generalize vs 40 = y40 at *
          generalize vs 41 = y41 at *
          have HTX2 : Hid (TextsAt wE.heap (.slice (some ⟨B2, 0, none⟩) 13 13) [⟨#[]⟩, ⟨#[109, 97, 110, 49]⟩, X94, X96, X98, X100, X103, X109, X115, X121, X127, X130, X133]) := HTX.out
          clear HTX
          generalize hbl : ([⟨#[]⟩, ⟨#[109, 97, 110, 49]⟩, X94, X96, X98, X100, X103, X109, X115, X121, X127, X130, X133] : List ByteArray) = bl at *
          have HBL : Hid (bl.length = 13) := by show _ = _; rw [← hbl]; rfl
          clear hbl R93 R94 R96 R98 R100 R102 R103 R105 R106 R108 R109 R111 R112 R114 R115 R117 R118 R120 R121 R123 R124 R126 R127 R129 R130 R132 R133
          go_wp2_with fail
          go_loopw [136] (fun i wr => ∃ k : Nat, k ≤ 13 ∧ i = .int .i64 k ∧ Hid (Keeps w wr) ∧ Hid (TextsAt wr.heap (.slice (some ⟨B2, 0, none⟩) 13 13) bl)) (fun i _ => 13 - (intOf i).toNat)
          case atStart => exact ⟨0, by omega, rfl, HKE, HTX2⟩
          case round =>
            obtain ⟨k, hk, rfl, hK, hT⟩ := hrel
            by_cases hlt : k < 13
            · have i1 : (k : Int) < 13 := by omega
              have i0 : (0 : Int) ≤ (k : Int) := by omega
              have hkb : k < bl.length := by rw [HBL.out]; exact hlt
              obtain ⟨b2, off, cp, u, e5, d1, r1⟩ := seq_cell hT.out hkb
              injection e5 with e6 e7 e8
              injection e6 with e6
              injection e6 with e6 e9
              subst e6 e8 e9
              rw [Nat.zero_add] at d1
              unfold IsText at r1
              subst r1
              obtain ⟨hz, hb⟩ := HBD.out _ (List.getElem_mem hkb)
              clear e7
              generalize bl[k] = x at *
              clear hkb
              have HS := Lib.hid (fun wx => ssum_any x wx (by omega))
              obtain ⟨V, hV⟩ : ∃ V, V = strB (SH.sumB x.data.toList) := ⟨_, rfl⟩
              rw [← hV] at HS
              have hvz : V.size = 32 := by rw [hV, strB_size, SH.sumB_length]
              have HR := Lib.hid (fun wx => frread_any (x ++ V) wx (by rw [ByteArray.size_append]; omega))
              rw [hV, seal_app, readF_no hb, ← hV] at HR
              unfold frV at HR
              dsimp only at HR
              have hsn : (9223372036854775807 < x.size + V.size) = False := eq_false (by omega)
              clear hV hvz hb hz
              go_wp2_with fail
              refine Calls.mono (HS.out _) ?_
              rintro e w3 ⟨rfl, hk3⟩
              go_wp2_with fail
              refine Calls.mono (HR.out _) ?_
              rintro e w4 ⟨rfl, hk4⟩
              have HK5 : Hid (Keeps w (w4.alloc (.cells (frA 0 0 0 0 ⟨#[]⟩) 47))) := ((hK.out.trans hk3).trans hk4).trans (kal _ _)
              have HT5 : Hid (TextsAt (w4.alloc (.cells (frA 0 0 0 0 ⟨#[]⟩) 47)).heap (.slice (some ⟨B2, 0, none⟩) 13 13) bl) := SeqAt.keeps hT.out ((hk3.trans hk4).trans (kal _ _))
              clear hk3 hk4 d1
              go_wp2_with (refine wpList_store_row rfl 47 (.tmp 10) (.tmp 146) rfl w4.heap.size (frA 0 0 0 0 ⟨#[]⟩) rfl rfl 47 _ (heap_alloc_last w4 _) (by kernel_rfl) rfl (frA_one 0 0 0 0 ⟨#[]⟩) ?_; rw [World.setRow_alloc_new])
              refine ⟨?_, by simp [intOf]; omega⟩
              first | exact ⟨k + 1, by omega, by go_num, HK5, HT5⟩ | ((repeat apply Exists.intro); exact ⟨⟨k + 1, by omega, by go_num, HK5, HT5⟩, rfl⟩)
            · obtain rfl : k = 13 := by omega
              have r1 := R154.out
              have hsn : (9223372036854775807 < G.size + V1.size) = False := eq_false (by have := HZV.out; omega)
              have hsm : (9223372036854775807 < G.size + V2.size) = False := eq_false (by have := HZV.out; omega)
              clear HBD HBL hT hlt hk
              go_wp2_with fail
              refine Calls.mono (HSM1.out _) ?_
              rintro e w3 ⟨rfl, hk3⟩
              go_wp2_with fail
              refine Calls.mono (HRB.out _) ?_
              rintro e w4 ⟨rfl, hk4⟩
              have HK5 : Hid (Keeps w (w4.alloc (.cells (frA 0 0 0 0 ⟨#[]⟩) 47))) := ((hK.out.trans hk3).trans hk4).trans (kal _ _)
              clear hk3 hk4 hK r1
              go_wp2_with (refine wpList_store_row rfl 47 (.tmp 12) (.tmp 158) rfl w4.heap.size (frA 0 0 0 0 ⟨#[]⟩) rfl rfl 47 _ (heap_alloc_last w4 _) (by kernel_rfl) rfl (frA_one 0 0 0 0 ⟨#[]⟩) ?_; rw [World.setRow_alloc_new])
              refine Calls.mono (HSM2.out _) ?_
              rintro e w6 ⟨rfl, hk6⟩
              go_wp2_with fail
              refine Calls.mono (HRG.out _) ?_
              rintro e w7 ⟨rfl, hk7⟩
              have HKB : Hid (Keeps w (w7.alloc (.cells (frA 1 2 2 3 ⟨#[120]⟩) 47))) := ((HK5.out.trans hk6).trans hk7).trans (kal _ _)
              have HN : Hid (RowH (w7.alloc (.cells (frA 1 2 2 3 ⟨#[120]⟩) 47)) w7.heap.size (frA 1 2 2 3 ⟨#[120]⟩) 47) := heap_alloc_new _ _
              clear hk6 hk7 HK5
              have HEQ := Lib.hid (run_frEq 1 2 2 3 1 2 2 3 ⟨#[120]⟩ ⟨#[120]⟩)
              rw [frEq_iff.2 ⟨rfl, rfl, rfl, rfl, rfl⟩] at HEQ
              go_wp2_with (refine wpList_store_row rfl 47 (.tmp 14) (.tmp 166) rfl w7.heap.size (frA 1 2 2 3 ⟨#[120]⟩) rfl rfl 47 _ (heap_alloc_last w7 _) (by kernel_rfl) rfl (frA_one 1 2 2 3 ⟨#[120]⟩) ?_; rw [World.setRow_alloc_new])
              generalize w7.alloc (.cells (frA 1 2 2 3 ⟨#[120]⟩) 47) = wb at *
              generalize w7.heap.size = N at *
              refine wp_region_stage [168, 169, 170, 171, 172, 173, 174, 175, 176, 177, 178, 0] [[], [0], [1], [2], [2, 3], [2, 4], [5], [6], [6], [6, 7, 8], [6, 9], [10]] [] [0, 0, 0, 0, 0, 0, 0, 0, 0, 0, 0, 0] [] (fun i v _ => fn21 N i v) (fun w w' => Keeps w w') (fun _ _ w' => Keeps wb w') (by kernel_rfl) (by kernel_rfl) (by kernel_rfl) (by kernel_rfl) (by kernel_rfl) (by kernel_rfl) (by kernel_rfl) ?_ ?_ ?_ ?_ ?_ ?_ ?_
              · exact fun i v w w' c h => h
              · exact fun w => keeps_refl w
              · exact fun i s vs w _ h => h
              · refine ⟨?_, ?_, ?_, ?_, ?_, ?_, ?_, ?_, ?_, ?_, ?_, ?_, trivial⟩
                · exact fun g b h => by (cases h)
                · exact fun g b h => by (cases h)
                · exact fun g b h => by (cases h)
                · exact fun g b h => by (cases h; exact ⟨by decide, fun v w h => h⟩)
                · exact fun g b h => by (cases h; exact ⟨by decide, fun v w h => h⟩)
                · exact fun g b h => by (cases h)
                · exact fun g b h => by (cases h)
                · exact fun g b h => by (cases h; exact ⟨by decide, fun v w h => h⟩)
                · exact fun g b h => by (cases h; exact ⟨by decide, fun v w h => h⟩)
                · exact fun g b h => by (cases h; exact ⟨by decide, fun v w h => h⟩)
                · exact fun g b h => by (cases h)
                · exact fun g b h => by (cases h)
              · exact fun _ _ => keeps_refl wb
              · refine ⟨?_, ?_, ?_, ?_, ?_, ?_, ?_, ?_, ?_, ?_, ?_, ?_, trivial⟩
                · intro _ a w1 vs hI ho hn hu K hK
                  have e13 : a.tmps[13]? = some (.int .i64 4) := ho 13 rfl
                  clear hn ho hu
                  go_simp
                  exact hK _ _ (keeps_refl _) hI rfl
                · intro _ a w1 vs hI ho hn hu K hK
                  obtain ⟨e168, g168⟩ : a.tmps[168]? = some (vs 0) ∧ vs 0 = .int .i64 4 := hn 0 (by decide)
                  rw [g168] at e168
                  clear g168
                  clear hn ho hu
                  go_simp
                  exact hK _ _ (keeps_refl _) hI rfl
                · intro _ a w1 vs hI ho hn hu K hK
                  obtain ⟨e169, g169⟩ : a.tmps[169]? = some (vs 1) ∧ vs 1 = .bool true := hn 1 (by decide)
                  rw [g169] at e169
                  clear g169
                  clear hn ho hu
                  go_simp
                  exact hK _ _ (keeps_refl _) hI rfl
                · intro _ a w1 vs hI ho hn hu K hK
                  have e15 : a.tmps[15]? = some (.int .i64 0) := ho 15 rfl
                  clear hn ho hu
                  go_simp
                  exact hK _ _ (keeps_refl _) hI rfl
                · intro _ a w1 vs hI ho hn hu K hK
                  obtain ⟨e171, g171⟩ : a.tmps[171]? = some (vs 3) ∧ vs 3 = .int .i64 0 := hn 3 (by decide)
                  rw [g171] at e171
                  clear g171
                  clear hn ho hu
                  go_simp
                  exact hK _ _ (keeps_refl _) hI rfl
                · intro _ a w1 vs hI ho hn hu K hK
                  obtain ⟨e170, g170⟩ : a.tmps[170]? = some (vs 2) ∧ vs 2 = .bool true := hn 2 (by decide)
                  rw [g170] at e170
                  clear g170
                  obtain ⟨e172, g172⟩ : a.tmps[172]? = some (vs 4) ∧ vs 4 = .bool true := hn 4 (by decide)
                  rw [g172] at e172
                  clear g172
                  clear hn ho hu
                  go_simp
                  exact hK _ _ (keeps_refl _) hI rfl
                · intro _ a w1 vs hI ho hn hu K hK
                  obtain ⟨e173, g173⟩ : a.tmps[173]? = some (vs 5) ∧ vs 5 = .bool true := hn 5 (by decide)
                  rw [g173] at e173
                  clear g173
                  clear hn ho hu
                  go_simp
                  exact hK _ _ (keeps_refl _) hI rfl
                · intro _ a w1 vs hI ho hn hu K hK
                  have e14 : a.tmps[14]? = some (.pointer (some ⟨N, 0, none⟩)) := ho 14 rfl
                  clear hn ho hu
                  have hr := HN.out.keeps hI
                  have c0 : w1.cell? ⟨N, 0, none⟩ = some (.int .i64 1) := cell_of_row w1 N 0 _ _ _ hr
                  have c1 : w1.cell? ⟨N, 1, none⟩ = some (.int .i64 2) := cell_of_row w1 N 1 _ _ _ hr
                  have c2 : w1.cell? ⟨N, 2, none⟩ = some (.int .i64 2) := cell_of_row w1 N 2 _ _ _ hr
                  have c3 : w1.cell? ⟨N, 3, none⟩ = some (.int .i64 3) := cell_of_row w1 N 3 _ _ _ hr
                  have c4 : w1.cell? ⟨N, 4, none⟩ = some (.string ⟨#[120]⟩) := cell_of_row w1 N 4 _ _ _ hr
                  go_simp
                  exact hK _ _ (keeps_refl _) hI rfl
                · intro _ a w1 vs hI ho hn hu K hK
                  clear hn ho hu
                  go_simp
                  refine Calls.mono (HOF.out 1 2 2 3 ⟨#[120]⟩ _) ?_
                  rintro e w' ⟨rfl, hk2⟩
                  go_simp
                  exact hK _ _ hk2 (Keeps.trans hI hk2) rfl
                · intro _ a w1 vs hI ho hn hu K hK
                  obtain ⟨e175, g175⟩ : a.tmps[175]? = some (vs 7) ∧ vs 7 = .agg #[.int .i64 1, .int .i64 2, .int .i64 2, .int .i64 3, .string ⟨#[120]⟩] := hn 7 (by decide)
                  rw [g175] at e175
                  clear g175
                  obtain ⟨e176, g176⟩ : a.tmps[176]? = some (vs 8) ∧ vs 8 = .agg #[.int .i64 1, .int .i64 2, .int .i64 2, .int .i64 3, .string ⟨#[120]⟩] := hn 8 (by decide)
                  rw [g176] at e176
                  clear g176
                  clear hn ho hu
                  have hq := HEQ.out
                  go_simp
                  exact hK _ _ (keeps_refl _) hI rfl
                · intro _ a w1 vs hI ho hn hu K hK
                  obtain ⟨e174, g174⟩ : a.tmps[174]? = some (vs 6) ∧ vs 6 = .bool true := hn 6 (by decide)
                  rw [g174] at e174
                  clear g174
                  obtain ⟨e177, g177⟩ : a.tmps[177]? = some (vs 9) ∧ vs 9 = .bool true := hn 9 (by decide)
                  rw [g177] at e177
                  clear g177
                  clear hn ho hu
                  go_simp
                  exact hK _ _ (keeps_refl _) hI rfl
                · intro _ a w1 vs hI ho hn hu K hK
                  obtain ⟨e178, g178⟩ : a.tmps[178]? = some (vs 10) ∧ vs 10 = .bool true := hn 10 (by decide)
                  rw [g178] at e178
                  clear g178
                  clear hn ho hu
                  go_simp
                  exact hK _ _ (keeps_refl _) hI rfl
              · intro vs wE hI hG
                have eL11 : vs 11 = .bool true := hG 11 (by decide)
                have HKE := Lib.hid hI
                clear hG hI
                simp only [setAll, Nat.zero_add, Nat.reduceAdd, List.setIfInBounds_toArray, List.set_cons_zero, List.set_cons_succ, eL11]
                clear eL11
                generalize vs 0 = y0 at *
                generalize vs 1 = y1 at *
                generalize vs 2 = y2 at *
                generalize vs 3 = y3 at *
                generalize vs 4 = y4 at *
                generalize vs 5 = y5 at *
                generalize vs 6 = y6 at *
                generalize vs 7 = y7 at *
                generalize vs 8 = y8 at *
                generalize vs 9 = y9 at *
                generalize vs 10 = y10 at *
                go_wp2_with fail
                go_ret
                exact ⟨rfl, HKB.out.trans HKE.out⟩
end Go.Proofs.Ytcapalofocmmoaa
