/- The walks of matrix.sum, Mul, Vec. -/
import Derived.Test.YtojdodbedemkoaaMatMay
namespace Go.Proofs.Ytojdodbedemkoaa
open Go.RowKit

/-- A product of two matrices, or how it is refused. -/
def prodAt (a b : List (List UInt8)) (i j : Nat) : UInt8 := LA.sum b.length fun k => LA.mul (LA.at_ a i k) (LA.at_ b k j)
def mulM (a b : List (List UInt8)) : List (List UInt8) × Int := if (mayB 12 a && mayB 12 b) && decide ((a.headD []).length = b.length) then (matOf a.length (b.headD []).length (prodAt a b), 0) else ([], 4)
def vecAt (m : List (List UInt8)) (v : List UInt8) (i : Nat) : UInt8 := LA.sum v.length fun k => LA.mul (LA.at_ m i k) (v.getD k 0)
def vecM (m : List (List UInt8)) (v : List UInt8) : List UInt8 × Int := if mayB 12 m && decide ((m.headD []).length = v.length) then ((List.range m.length).map (vecAt m v), 0) else ([], 4)

theorem mayB_iff {t : Nat} {m : List (List UInt8)} : mayB t m = true ↔ 1 ≤ m.length ∧ m.length ≤ t ∧ 1 ≤ (m.headD []).length ∧ (m.headD []).length ≤ t ∧ ∀ r ∈ m, r.length = (m.headD []).length := by unfold mayB; simp
theorem may_row {t : Nat} {m : List (List UInt8)} (h : mayB t m = true) {i : Nat} (hi : i < m.length) : (m.getD i []).length = (m.headD []).length := by
  have := (mayB_iff.1 h).2.2.2.2 m[i] (List.getElem_mem hi)
  rw [List.getD_eq_getElem?_getD, List.getElem?_eq_getElem hi]; exact this

/-- A matrix's row and a number of it, where they lie. -/
theorem mat_row {w : World} {va : Value} {m : List (List UInt8)} (h : MatAt w.heap va m) {i : Nat} (hi : i < m.length) : ∃ b off c u, va = .slice (some ⟨b, off, none⟩) m.length c ∧ w.cell? ⟨b, off + i, none⟩ = some u ∧ RowAt w.heap u (m.getD i []) := by
  obtain ⟨a, ca, rfl, hla, hea⟩ := h
  obtain ⟨b, off, u, rfl, c1, r1⟩ := hea i hi
  rw [← cell_of] at c1
  refine ⟨b, off, ca, u, rfl, c1, ?_⟩
  rw [List.getD_eq_getElem?_getD, List.getElem?_eq_getElem hi]; exact r1
theorem row_cell {w : World} {va : Value} {r : List UInt8} (h : RowAt w.heap va r) {j : Nat} (hj : j < r.length) : ∃ b off c, va = .slice (some ⟨b, off, none⟩) r.length c ∧ w.cell? ⟨b, off + j, none⟩ = some (.int .u8 ((r.getD j 0).toNat : Int)) := by
  obtain ⟨a, ca, rfl, hla, hea⟩ := h
  obtain ⟨b, off, u, rfl, c1, r1⟩ := hea j hj
  rw [← cell_of, r1] at c1
  refine ⟨b, off, ca, rfl, ?_⟩
  rw [List.getD_eq_getElem?_getD, List.getElem?_eq_getElem hj]; exact c1
theorem mat_cell {w : World} {va : Value} {m : List (List UInt8)} (h : MatAt w.heap va m) {i j : Nat} (hi : i < m.length) (hj : j < (m.getD i []).length) :
    ∃ b off c b' off' c', va = .slice (some ⟨b, off, none⟩) m.length c ∧ w.cell? ⟨b, off + i, none⟩ = some (.slice (some ⟨b', off', none⟩) (m.getD i []).length c') ∧ w.cell? ⟨b', off' + j, none⟩ = some (.int .u8 ((LA.at_ m i j).toNat : Int)) := by
  obtain ⟨b, off, c, u, rfl, c1, r1⟩ := mat_row h hi
  obtain ⟨b', off', c', rfl, c2⟩ := row_cell r1 hj
  exact ⟨b, off, c, b', off', c', rfl, c1, c2⟩

set_option maxRecDepth 100000 in
set_option maxHeartbeats 1000000 in
theorem sum_any (b many : Nat) (fn : FuncId) (caps : Array Value) (f g : Nat → UInt8) (w : World) (hm : many ≤ 4096) (ht : Tab w.heap b)
    (hcf : ∀ (xs : Array Value) (wx : World), (callFunc fn xs).run Try.prog wx = .ok (.enter fn xs) wx)
    (hf : ∀ wx, Keeps w wx → ∀ k : Nat, k < many → Calls Try.prog fn (#[.int .i64 (k : Int)] ++ caps) wx fun e w' => e = .returned (.tuple #[.int .u8 ((f k).toNat : Int), .int .u8 ((g k).toNat : Int)]) ∧ Keeps wx w') :
    Calls Try.prog 61 #[.pointer (some ⟨b, 0, none⟩), .int .i64 (many : Int), .func (.func fn) #[] caps] w fun e w' => e = .returned (.int .u8 ((LA.sum many fun k => LA.mul (f k) (g k)).toNat : Int)) ∧ Keeps w w' := by
  have HF := Lib.hid hf
  have HT := Lib.hid ht
  clear hf ht
  go_enter Try.func61, Try.ntmps61
  go_wp2
  go_loopw [7, 12] (fun s i wr => ∃ k : Nat, k ≤ many ∧ i = .int .i64 k ∧ s = .int .u8 ((LA.sum k fun k => LA.mul (f k) (g k)).toNat : Int) ∧ Hid (Keeps w wr)) (fun _ i _ => many - (intOf i).toNat)
  case atStart => exact ⟨0, by omega, rfl, rfl, keeps_refl w⟩
  case round =>
    obtain ⟨k, hk, rfl, rfl, hkw⟩ := hrel
    by_cases hlt : k < many
    · have hs : Hid (LA.sum (k + 1) (fun k => LA.mul (f k) (g k)) = LA.sum k (fun k => LA.mul (f k) (g k)) ^^^ LA.mul (f k) (g k)) := rfl
      generalize LA.sum k (fun k => LA.mul (f k) (g k)) = s at *
      go_wp2_with fail
      refine Calls.mono (HF.out _ hkw.out k hlt) ?_
      rintro e w1 ⟨rfl, hk1⟩
      have hk2 : Hid (Keeps w w1) := hkw.out.call hk1 (Nat.le_refl _)
      have ht1 := HT.out.keeps hk2.out
      clear hkw
      go_wp2_with (first | (go_at_call 35; refine Calls.mono (gmul_tab _ _ _ _ ?_) ?_; exact ht1; rintro e w' ⟨rfl, n, rfl⟩) | (go_at_call 36; refine Calls.mono (gadd_any _ _ _ _) ?_; rintro e w' ⟨rfl, rfl⟩))
      exact ⟨⟨k + 1, by omega, rfl, by rw [hs.out]; rfl, hk2.out⟩, by simp [intOf]; omega⟩
    · obtain rfl : k = many := by omega
      go_wp2
      go_ret
      exact ⟨rfl, hkw.out⟩

set_option maxRecDepth 100000 in
set_option maxHeartbeats 1000000 in
theorem mulcl2_any (va vb : Value) (a b : List (List UInt8)) (i j k ba bi bb bj : Nat) (w : World) (ha : MatAt w.heap va a) (hb : MatAt w.heap vb b)
    (hi : i < a.length) (hk : k < (a.getD i []).length) (hk2 : k < b.length) (hj : j < (b.getD k []).length)
    (ca : w.cell? ⟨ba, 0, none⟩ = some va) (ci : w.cell? ⟨bi, 0, none⟩ = some (.int .i64 (i : Int))) (cb : w.cell? ⟨bb, 0, none⟩ = some vb) (cj : w.cell? ⟨bj, 0, none⟩ = some (.int .i64 (j : Int))) :
    Calls Try.prog 62 #[.int .i64 (k : Int), .pointer (some ⟨ba, 0, none⟩), .pointer (some ⟨bi, 0, none⟩), .pointer (some ⟨bb, 0, none⟩), .pointer (some ⟨bj, 0, none⟩)] w
      fun e w' => e = .returned (.tuple #[.int .u8 ((LA.at_ a i k).toNat : Int), .int .u8 ((LA.at_ b k j).toNat : Int)]) ∧ Keeps w w' := by
  obtain ⟨b1, o1, c1, b2, o2, c2, rfl, d1, d2⟩ := mat_cell ha hi hk
  obtain ⟨b3, o3, c3, b4, o4, c4, rfl, d3, d4⟩ := mat_cell hb hk2 hj
  generalize LA.at_ a i k = x at *
  generalize LA.at_ b k j = y at *
  generalize (a.getD i []).length = l1 at *
  generalize (b.getD k []).length = l2 at *
  generalize a.length = l3 at *
  generalize b.length = l4 at *
  clear ha hb
  go_enter Try.func62, Try.ntmps62
  go_wp2
  go_region
  all_goals
    go_wp2
    go_ret2
    exact ⟨rfl, keeps_refl _⟩
theorem enters_mulcl2 (xs : Array Value) (w : World) : (callFunc 62 xs).run Try.prog w = .ok (.enter 62 xs) w := enters_body Try.func62 (by kernel_rfl) rfl xs w

set_option maxRecDepth 100000 in
set_option maxHeartbeats 1000000 in
theorem veccl_any (va vb : Value) (a : List (List UInt8)) (v : List UInt8) (i k ba bi bb : Nat) (w : World) (ha : MatAt w.heap va a) (hb : RowAt w.heap vb v)
    (hi : i < a.length) (hk : k < (a.getD i []).length) (hk2 : k < v.length)
    (ca : w.cell? ⟨ba, 0, none⟩ = some va) (ci : w.cell? ⟨bi, 0, none⟩ = some (.int .i64 (i : Int))) (cb : w.cell? ⟨bb, 0, none⟩ = some vb) :
    Calls Try.prog 63 #[.int .i64 (k : Int), .pointer (some ⟨ba, 0, none⟩), .pointer (some ⟨bi, 0, none⟩), .pointer (some ⟨bb, 0, none⟩)] w
      fun e w' => e = .returned (.tuple #[.int .u8 ((LA.at_ a i k).toNat : Int), .int .u8 ((v.getD k 0).toNat : Int)]) ∧ Keeps w w' := by
  obtain ⟨b1, o1, c1, b2, o2, c2, rfl, d1, d2⟩ := mat_cell ha hi hk
  obtain ⟨b3, o3, c3, rfl, d3⟩ := row_cell hb hk2
  generalize LA.at_ a i k = x at *
  generalize v.getD k 0 = y at *
  generalize (a.getD i []).length = l1 at *
  generalize a.length = l3 at *
  generalize v.length = l4 at *
  clear ha hb
  go_enter Try.func63, Try.ntmps63
  go_wp2
  go_region
  all_goals
    go_wp2
    go_ret2
    exact ⟨rfl, keeps_refl _⟩
theorem enters_veccl (xs : Array Value) (w : World) : (callFunc 63 xs).run Try.prog w = .ok (.enter 63 xs) w := enters_body Try.func63 (by kernel_rfl) rfl xs w

set_option maxRecDepth 100000 in
set_option maxHeartbeats 1000000 in
theorem mulcl_any (va vb : Value) (a b : List (List UInt8)) (i j bt bf bb ba : Nat) (w : World) (ha : MatAt w.heap va a) (hb : MatAt w.heap vb b) (ma : mayB 12 a = true) (mb : mayB 12 b = true) (hab : (a.headD []).length = b.length)
    (hi : i < a.length) (hj : j < (b.headD []).length) (ht : Tab w.heap bt)
    (cf : w.cell? ⟨bf, 0, none⟩ = some (.pointer (some ⟨bt, 0, none⟩))) (cb : w.cell? ⟨bb, 0, none⟩ = some vb) (ca : w.cell? ⟨ba, 0, none⟩ = some va) :
    Calls Try.prog 60 #[.int .i64 (i : Int), .int .i64 (j : Int), .pointer (some ⟨bf, 0, none⟩), .pointer (some ⟨bb, 0, none⟩), .pointer (some ⟨ba, 0, none⟩)] w
      fun e w' => e = .returned (.int .u8 ((prodAt a b i j).toNat : Int)) ∧ Keeps w w' := by
  have hmf : ∀ (fn : Fn) (first cap : Array Value) (w : World), (Instr.makeFunc fn first cap).run Try.prog w = .ok (.func fn first cap) w := fun _ _ _ _ => rfl
  have HA := Lib.hid ha
  have HB := Lib.hid hb
  obtain ⟨pb, cap, rfl, _, _⟩ := hb
  obtain ⟨a1, a2, a3, a4, a5⟩ := mayB_iff.1 ma
  obtain ⟨b1, b2, b3, b4, b5⟩ := mayB_iff.1 mb
  have hlf := cell_lt cf
  have hlb := cell_lt cb
  have hla := cell_lt ca
  have hk0 : Hid (Keeps w ((w.alloc (.cells #[.int .i64 (i : Int)] 3)).alloc (.cells #[.int .i64 (j : Int)] 3))) := ((Kept.refl _ _).alloc (Nat.le_refl _) _).alloc (Nat.le_refl _) _
  have HT : Hid (Tab ((w.alloc (.cells #[.int .i64 (i : Int)] 3)).alloc (.cells #[.int .i64 (j : Int)] 3)).heap bt) := ht.keeps hk0.out
  have ea : Hid (((w.alloc (.cells #[.int .i64 (i : Int)] 3)).alloc (.cells #[.int .i64 (j : Int)] 3)).cell? ⟨ba, 0, none⟩ = some va) := keeps_cell hk0.out ca
  have eb : Hid (((w.alloc (.cells #[.int .i64 (i : Int)] 3)).alloc (.cells #[.int .i64 (j : Int)] 3)).cell? ⟨bb, 0, none⟩ = some (.slice pb b.length cap)) := keeps_cell hk0.out cb
  have ei : Hid (((w.alloc (.cells #[.int .i64 (i : Int)] 3)).alloc (.cells #[.int .i64 (j : Int)] 3)).cell? ⟨w.heap.size, 0, none⟩ = some (.int .i64 (i : Int))) := by
    show _ = _; rw [World.cell?_alloc_past _ _ _ (by simp)]; exact World.cell?_alloc_new _ _ _ _
  have ej : Hid (((w.alloc (.cells #[.int .i64 (i : Int)] 3)).alloc (.cells #[.int .i64 (j : Int)] 3)).cell? ⟨w.heap.size + 1, 0, none⟩ = some (.int .i64 (j : Int))) := by
    have := World.cell?_alloc_new (w.alloc (.cells #[.int .i64 (i : Int)] 3)) #[.int .i64 (j : Int)] 3 0
    rw [World.size_alloc] at this; exact this
  clear ha ht
  go_enter Try.func60, Try.ntmps60
  go_wp2_with fail
  refine Calls.mono (sum_any bt b.length 62 _ (fun k => LA.at_ a i k) (fun k => LA.at_ b k j) _ (by omega) HT.out enters_mulcl2 fun wx hx k hk => mulcl2_any va (.slice pb b.length cap) a b i j k ba w.heap.size bb (w.heap.size + 1) wx (HA.out.keeps (hk0.out.call hx (Nat.le_refl _))) (HB.out.keeps (hk0.out.call hx (Nat.le_refl _))) hi (by rw [may_row ma hi]; omega) hk (by rw [may_row mb hk]; omega) (keeps_cell hx ea.out) (keeps_cell hx ei.out) (keeps_cell hx eb.out) (keeps_cell hx ej.out)) ?_
  rintro e w1 ⟨rfl, hk1⟩
  go_wp2
  go_ret
  exact ⟨rfl, hk0.out.call hk1 (Nat.le_refl _)⟩
theorem enters_mulcl (xs : Array Value) (w : World) : (callFunc 60 xs).run Try.prog w = .ok (.enter 60 xs) w := enters_body Try.func60 (by kernel_rfl) rfl xs w
end Go.Proofs.Ytojdodbedemkoaa
