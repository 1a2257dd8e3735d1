/- The walks of matrix.sum, Mul, Vec. -/
import Derived.Test.YtojdodbedemkoaaMatMay
import Derived.Test.YtojdodbedemkoaaRegion
import Derived.Deep.RegionHeld3
namespace Go.Proofs.Ytojdodbedemkoaa
open Go.RowKit

/-- A product of two matrices, or how it is refused. -/
def prodAt (a b : List (List UInt8)) (i j : Nat) : UInt8 := LA.sum b.length fun k => LA.mul (LA.at_ a i k) (LA.at_ b k j)
def mulM (a b : List (List UInt8)) : List (List UInt8) × Int := if (mayB 12 a && mayB 12 b) && decide ((a.headD []).length = b.length) then (matOf a.length (b.headD []).length (prodAt a b), 0) else ([], 4)
def vecAt (m : List (List UInt8)) (v : List UInt8) (i : Nat) : UInt8 := LA.sum v.length fun k => LA.mul (LA.at_ m i k) (v.getD k 0)
def vecM (m : List (List UInt8)) (v : List UInt8) : List UInt8 × Int := if mayB 12 m && decide ((m.headD []).length = v.length) then ((List.range m.length).map (vecAt m v), 0) else ([], 4)

theorem mayB_iff {t : Nat} {m : List (List UInt8)} : mayB t m = true ↔ 1 ≤ m.length ∧ m.length ≤ t ∧ 1 ≤ (m.headD []).length ∧ (m.headD []).length ≤ t ∧ ∀ r ∈ m, r.length = (m.headD []).length := by unfold mayB; simp
theorem may_row {t : Nat} {m : List (List UInt8)} (h : mayB t m = true) {i : Nat} (hi : i < m.length) : (m.getD i []).length = (m.headD []).length := by
  have := (mayB_iff.1 h).2.2.2.2 m[i] (List.getElem_mem hi)
  rw [List.getD_eq_getElem?_getD, List.getElem?_eq_getElem hi]; exact this

/-- A matrix's row and a number of it, where they lie. -/
theorem mat_row {w : World} {va : Value} {m : List (List UInt8)} (h : MatAt w.heap va m) {i : Nat} (hi : i < m.length) : ∃ b off c u, va = .slice (some ⟨b, off, none⟩) m.length c ∧ w.cell? ⟨b, off + i, none⟩ = some u ∧ RowAt w.heap u (m.getD i []) := by
  obtain ⟨a, ca, rfl, hla, hea⟩ := h
  obtain ⟨b, off, u, rfl, c1, r1⟩ := hea i hi
  rw [← cell_of] at c1
  refine ⟨b, off, ca, u, rfl, c1, ?_⟩
  rw [List.getD_eq_getElem?_getD, List.getElem?_eq_getElem hi]; exact r1
theorem row_cell {w : World} {va : Value} {r : List UInt8} (h : RowAt w.heap va r) {j : Nat} (hj : j < r.length) : ∃ b off c, va = .slice (some ⟨b, off, none⟩) r.length c ∧ w.cell? ⟨b, off + j, none⟩ = some (.int .u8 ((r.getD j 0).toNat : Int)) := by
  obtain ⟨a, ca, rfl, hla, hea⟩ := h
  obtain ⟨b, off, u, rfl, c1, r1⟩ := hea j hj
  rw [← cell_of, r1] at c1
  refine ⟨b, off, ca, rfl, ?_⟩
  rw [List.getD_eq_getElem?_getD, List.getElem?_eq_getElem hj]; exact c1
theorem mat_cell {w : World} {va : Value} {m : List (List UInt8)} (h : MatAt w.heap va m) {i j : Nat} (hi : i < m.length) (hj : j < (m.getD i []).length) :
    ∃ b off c b' off' c', va = .slice (some ⟨b, off, none⟩) m.length c ∧ w.cell? ⟨b, off + i, none⟩ = some (.slice (some ⟨b', off', none⟩) (m.getD i []).length c') ∧ w.cell? ⟨b', off' + j, none⟩ = some (.int .u8 ((LA.at_ m i j).toNat : Int)) := by
  obtain ⟨b, off, c, u, rfl, c1, r1⟩ := mat_row h hi
  obtain ⟨b', off', c', rfl, c2⟩ := row_cell r1 hj
  exact ⟨b, off, c, b', off', c', rfl, c1, c2⟩

set_option maxRecDepth 100000 in
set_option maxHeartbeats 1000000 in
theorem sum_any (b many : Nat) (fn : FuncId) (caps : Array Value) (f g : Nat → UInt8) (w : World) (hm : many ≤ 4096) (ht : Tab w.heap b)
    (hcf : ∀ (xs : Array Value) (wx : World), (callFunc fn xs).run Try.prog wx = .ok (.enter fn xs) wx)
    (hf : ∀ wx, Keeps w wx → ∀ k : Nat, k < many → Calls Try.prog fn (#[.int .i64 (k : Int)] ++ caps) wx fun e w' => e = .returned (.tuple #[.int .u8 ((f k).toNat : Int), .int .u8 ((g k).toNat : Int)]) ∧ Keeps wx w') :
    Calls Try.prog 61 #[.pointer (some ⟨b, 0, none⟩), .int .i64 (many : Int), .func (.func fn) #[] caps] w fun e w' => e = .returned (.int .u8 ((LA.sum many fun k => LA.mul (f k) (g k)).toNat : Int)) ∧ Keeps w w' := by
  have HF := Lib.hid hf
  have HT := Lib.hid ht
  clear hf ht
  go_enter Try.func61, Try.ntmps61
  go_wp2
  go_loopw [7, 12] (fun s i wr => ∃ k : Nat, k ≤ many ∧ i = .int .i64 k ∧ s = .int .u8 ((LA.sum k fun k => LA.mul (f k) (g k)).toNat : Int) ∧ Hid (Keeps w wr)) (fun _ i _ => many - (intOf i).toNat)
  case atStart => exact ⟨0, by omega, rfl, rfl, keeps_refl w⟩
  case round =>
    obtain ⟨k, hk, rfl, rfl, hkw⟩ := hrel
    by_cases hlt : k < many
    · have hs : Hid (LA.sum (k + 1) (fun k => LA.mul (f k) (g k)) = LA.sum k (fun k => LA.mul (f k) (g k)) ^^^ LA.mul (f k) (g k)) := rfl
      generalize LA.sum k (fun k => LA.mul (f k) (g k)) = s at *
      go_wp2_with fail
      refine Calls.mono (HF.out _ hkw.out k hlt) ?_
      rintro e w1 ⟨rfl, hk1⟩
      have hk2 : Hid (Keeps w w1) := hkw.out.call hk1 (Nat.le_refl _)
      have ht1 := HT.out.keeps hk2.out
      clear hkw
      go_wp2_with (first | (go_at_call 35; refine Calls.mono (gmul_tab _ _ _ _ ?_) ?_; exact ht1; rintro e w' ⟨rfl, n, rfl⟩) | (go_at_call 36; refine Calls.mono (gadd_any _ _ _ _) ?_; rintro e w' ⟨rfl, rfl⟩))
      exact ⟨⟨k + 1, by omega, rfl, by rw [hs.out]; rfl, hk2.out⟩, by simp [intOf]; omega⟩
    · obtain rfl : k = many := by omega
      go_wp2
      go_ret
      exact ⟨rfl, hkw.out⟩

set_option maxRecDepth 100000 in
set_option maxHeartbeats 1000000 in
theorem mulcl2_any (va vb : Value) (a b : List (List UInt8)) (i j k ba bi bb bj : Nat) (w : World) (ha : MatAt w.heap va a) (hb : MatAt w.heap vb b)
    (hi : i < a.length) (hk : k < (a.getD i []).length) (hk2 : k < b.length) (hj : j < (b.getD k []).length)
    (ca : w.cell? ⟨ba, 0, none⟩ = some va) (ci : w.cell? ⟨bi, 0, none⟩ = some (.int .i64 (i : Int))) (cb : w.cell? ⟨bb, 0, none⟩ = some vb) (cj : w.cell? ⟨bj, 0, none⟩ = some (.int .i64 (j : Int))) :
    Calls Try.prog 62 #[.int .i64 (k : Int), .pointer (some ⟨ba, 0, none⟩), .pointer (some ⟨bi, 0, none⟩), .pointer (some ⟨bb, 0, none⟩), .pointer (some ⟨bj, 0, none⟩)] w
      fun e w' => e = .returned (.tuple #[.int .u8 ((LA.at_ a i k).toNat : Int), .int .u8 ((LA.at_ b k j).toNat : Int)]) ∧ Keeps w w' := by
  obtain ⟨b1, o1, c1, b2, o2, c2, rfl, d1, d2⟩ := mat_cell ha hi hk
  obtain ⟨b3, o3, c3, b4, o4, c4, rfl, d3, d4⟩ := mat_cell hb hk2 hj
  generalize LA.at_ a i k = x at *
  generalize LA.at_ b k j = y at *
  generalize (a.getD i []).length = l1 at *
  generalize (b.getD k []).length = l2 at *
  generalize a.length = l3 at *
  generalize b.length = l4 at *
  clear ha hb
  go_enter Try.func62, Try.ntmps62
  go_wp2
  go_region
  all_goals
    go_wp2
    go_ret2
    exact ⟨rfl, keeps_refl _⟩
theorem enters_mulcl2 (xs : Array Value) (w : World) : (callFunc 62 xs).run Try.prog w = .ok (.enter 62 xs) w := enters_body Try.func62 (by kernel_rfl) rfl xs w

set_option maxRecDepth 100000 in
set_option maxHeartbeats 1000000 in
theorem veccl_any (va vb : Value) (a : List (List UInt8)) (v : List UInt8) (i k ba bi bb : Nat) (w : World) (ha : MatAt w.heap va a) (hb : RowAt w.heap vb v)
    (hi : i < a.length) (hk : k < (a.getD i []).length) (hk2 : k < v.length)
    (ca : w.cell? ⟨ba, 0, none⟩ = some va) (ci : w.cell? ⟨bi, 0, none⟩ = some (.int .i64 (i : Int))) (cb : w.cell? ⟨bb, 0, none⟩ = some vb) :
    Calls Try.prog 63 #[.int .i64 (k : Int), .pointer (some ⟨ba, 0, none⟩), .pointer (some ⟨bi, 0, none⟩), .pointer (some ⟨bb, 0, none⟩)] w
      fun e w' => e = .returned (.tuple #[.int .u8 ((LA.at_ a i k).toNat : Int), .int .u8 ((v.getD k 0).toNat : Int)]) ∧ Keeps w w' := by
  obtain ⟨b1, o1, c1, b2, o2, c2, rfl, d1, d2⟩ := mat_cell ha hi hk
  obtain ⟨b3, o3, c3, rfl, d3⟩ := row_cell hb hk2
  generalize LA.at_ a i k = x at *
  generalize v.getD k 0 = y at *
  generalize (a.getD i []).length = l1 at *
  generalize a.length = l3 at *
  generalize v.length = l4 at *
  clear ha hb
  go_enter Try.func63, Try.ntmps63
  go_wp2
  go_region
  all_goals
    go_wp2
    go_ret2
    exact ⟨rfl, keeps_refl _⟩
theorem enters_veccl (xs : Array Value) (w : World) : (callFunc 63 xs).run Try.prog w = .ok (.enter 63 xs) w := enters_body Try.func63 (by kernel_rfl) rfl xs w

set_option maxRecDepth 100000 in
set_option maxHeartbeats 1000000 in
theorem mulcl_any (va vb : Value) (a b : List (List UInt8)) (i j bt bf bb ba : Nat) (w : World) (ha : MatAt w.heap va a) (hb : MatAt w.heap vb b) (ma : mayB 12 a = true) (mb : mayB 12 b = true) (hab : (a.headD []).length = b.length)
    (hi : i < a.length) (hj : j < (b.headD []).length) (ht : Tab w.heap bt)
    (cf : w.cell? ⟨bf, 0, none⟩ = some (.pointer (some ⟨bt, 0, none⟩))) (cb : w.cell? ⟨bb, 0, none⟩ = some vb) (ca : w.cell? ⟨ba, 0, none⟩ = some va) :
    Calls Try.prog 60 #[.int .i64 (i : Int), .int .i64 (j : Int), .pointer (some ⟨bf, 0, none⟩), .pointer (some ⟨bb, 0, none⟩), .pointer (some ⟨ba, 0, none⟩)] w
      fun e w' => e = .returned (.int .u8 ((prodAt a b i j).toNat : Int)) ∧ Keeps w w' := by
  have hmf : ∀ (fn : Fn) (first cap : Array Value) (w : World), (Instr.makeFunc fn first cap).run Try.prog w = .ok (.func fn first cap) w := fun _ _ _ _ => rfl
  have HA := Lib.hid ha
  have HB := Lib.hid hb
  obtain ⟨pb, cap, rfl, _, _⟩ := hb
  obtain ⟨a1, a2, a3, a4, a5⟩ := mayB_iff.1 ma
  obtain ⟨b1, b2, b3, b4, b5⟩ := mayB_iff.1 mb
  have hlf := cell_lt cf
  have hlb := cell_lt cb
  have hla := cell_lt ca
  have hk0 : Hid (Keeps w ((w.alloc (.cells #[.int .i64 (i : Int)] 3)).alloc (.cells #[.int .i64 (j : Int)] 3))) := ((Kept.refl _ _).alloc (Nat.le_refl _) _).alloc (Nat.le_refl _) _
  have HT : Hid (Tab ((w.alloc (.cells #[.int .i64 (i : Int)] 3)).alloc (.cells #[.int .i64 (j : Int)] 3)).heap bt) := ht.keeps hk0.out
  have ea : Hid (((w.alloc (.cells #[.int .i64 (i : Int)] 3)).alloc (.cells #[.int .i64 (j : Int)] 3)).cell? ⟨ba, 0, none⟩ = some va) := keeps_cell hk0.out ca
  have eb : Hid (((w.alloc (.cells #[.int .i64 (i : Int)] 3)).alloc (.cells #[.int .i64 (j : Int)] 3)).cell? ⟨bb, 0, none⟩ = some (.slice pb b.length cap)) := keeps_cell hk0.out cb
  have ei : Hid (((w.alloc (.cells #[.int .i64 (i : Int)] 3)).alloc (.cells #[.int .i64 (j : Int)] 3)).cell? ⟨w.heap.size, 0, none⟩ = some (.int .i64 (i : Int))) := by
    show _ = _; rw [World.cell?_alloc_past _ _ _ (by simp)]; exact World.cell?_alloc_new _ _ _ _
  have ej : Hid (((w.alloc (.cells #[.int .i64 (i : Int)] 3)).alloc (.cells #[.int .i64 (j : Int)] 3)).cell? ⟨w.heap.size + 1, 0, none⟩ = some (.int .i64 (j : Int))) := by
    have := World.cell?_alloc_new (w.alloc (.cells #[.int .i64 (i : Int)] 3)) #[.int .i64 (j : Int)] 3 0
    rw [World.size_alloc] at this; exact this
  clear ha ht
  go_enter Try.func60, Try.ntmps60
  go_wp2_with fail
  refine Calls.mono (sum_any bt b.length 62 _ (fun k => LA.at_ a i k) (fun k => LA.at_ b k j) _ (by omega) HT.out enters_mulcl2 fun wx hx k hk => mulcl2_any va (.slice pb b.length cap) a b i j k ba w.heap.size bb (w.heap.size + 1) wx (HA.out.keeps (hk0.out.call hx (Nat.le_refl _))) (HB.out.keeps (hk0.out.call hx (Nat.le_refl _))) hi (by rw [may_row ma hi]; omega) hk (by rw [may_row mb hk]; omega) (keeps_cell hx ea.out) (keeps_cell hx ei.out) (keeps_cell hx eb.out) (keeps_cell hx ej.out)) ?_
  rintro e w1 ⟨rfl, hk1⟩
  go_wp2
  go_ret
  exact ⟨rfl, hk0.out.call hk1 (Nat.le_refl _)⟩
theorem enters_mulcl (xs : Array Value) (w : World) : (callFunc 60 xs).run Try.prog w = .ok (.enter 60 xs) w := enters_body Try.func60 (by kernel_rfl) rfl xs w
end Go.Proofs.Ytojdodbedemkoaa
/- The walks of matrix.Mul, Vec. -/
namespace Go.Proofs.Ytojdodbedemkoaa
open Go.RowKit

theorem may_yes (va : Value) (m : List (List UInt8)) (w : World) (hm : MatAt w.heap va m) (h : mayB 12 m = true) : Calls Try.prog 30 #[va] w fun e w' => e = .returned (.bool true) ∧ Keeps w w' := by
  have := may_any va m w hm; rw [h] at this; exact this
theorem may_no (va : Value) (m : List (List UInt8)) (w : World) (hm : MatAt w.heap va m) (h : mayB 12 m = false) : Calls Try.prog 30 #[va] w fun e w' => e = .returned (.bool false) ∧ Keeps w w' := by
  have := may_any va m w hm; rw [h] at this; exact this

theorem box2 (w : World) (va vb : Value) (ta tb : TypeId) : Keeps w ((w.alloc (.cells #[va] ta)).alloc (.cells #[vb] tb)) ∧ ((w.alloc (.cells #[va] ta)).alloc (.cells #[vb] tb)).cell? ⟨w.heap.size, 0, none⟩ = some va ∧ ((w.alloc (.cells #[va] ta)).alloc (.cells #[vb] tb)).cell? ⟨w.heap.size + 1, 0, none⟩ = some vb := by
  refine ⟨((Kept.refl _ _).alloc (Nat.le_refl _) _).alloc (Nat.le_refl _) _, ?_, ?_⟩
  · rw [World.cell?_alloc_past _ _ _ (by simp)]; exact World.cell?_alloc_new _ _ _ _
  · have := World.cell?_alloc_new (w.alloc (.cells #[va] ta)) #[vb] tb 0
    rw [World.size_alloc] at this; exact this

theorem seq_shape {α : Type} {R : Value → α → Prop} {h : Array Obj} {v : Value} {l : List α} (s : SeqAt R h v l) : ∃ p q, v = .slice p l.length q := let ⟨a, c, e, _⟩ := s; ⟨a, c, e⟩
theorem row0' {w : World} {p : Option Addr} {q : Nat} {m : List (List UInt8)} (h : MatAt w.heap (.slice p m.length q) m) (h1 : 1 ≤ m.length) : ∃ b off a ca, p = some ⟨b, off, none⟩ ∧ w.cell? ⟨b, off, none⟩ = some (.slice a (m.headD []).length ca) := by
  obtain ⟨b, off, c, a, ca, e, h⟩ := row0 h h1
  injection e with e1 e2 e3
  exact ⟨b, off, a, ca, e1, h⟩

set_option maxRecDepth 100000 in
set_option maxHeartbeats 4000000 in
theorem matmul_any (va vb : Value) (a b : List (List UInt8)) (w : World) (ha : MatAt w.heap va a) (hb : MatAt w.heap vb b) :
    Calls Try.prog 27 #[va, vb] w (GiveMat w (mulM a b)) := by
  have hmf : ∀ (fn : Fn) (first cap : Array Value) (w : World), (Instr.makeFunc fn first cap).run Try.prog w = .ok (.func fn first cap) w := fun _ _ _ _ => rfl
  obtain ⟨pa, qa, rfl⟩ := seq_shape ha
  obtain ⟨pb, qb, rfl⟩ := seq_shape hb
  obtain ⟨hk0, ca, cb⟩ := box2 w (.slice pa a.length qa) (.slice pb b.length qb) 24 24
  have HK := Lib.hid hk0
  have HA := Lib.hid (ha.keeps hk0)
  have HB := Lib.hid (hb.keeps hk0)
  clear hk0
  cases ma : mayB 12 a with
  | false =>
    have e : Hid (mulM a b = ([], 4)) := by show _ = _; unfold mulM; rw [ma]; rfl
    have MA := Lib.hid ma
    clear ha hb ma
    go_enter Try.func27, Try.ntmps27
    go_wp2_with fail
    generalize (w.alloc (.cells #[.slice pa a.length qa] 24)).alloc (.cells #[.slice pb b.length qb] 24) = w2 at *
    go_region_with (first | (go_at_call 30; refine Calls.mono (may_no _ a _ HA.out MA.out) ?_; rintro e w5 ⟨rfl, hk5⟩; have ca := keeps_cell hk5 ca; have cb := keeps_cell hk5 cb; have HA := Lib.hid (HA.out.keeps hk5); have HB := Lib.hid (HB.out.keeps hk5); have HK : Hid (Keeps w w5) := HK.out.call hk5 (Nat.le_refl _); go_wp2_with fail; refine wpAny_at 2 9 (.bool true) rfl (by kernel_rfl) (by kernel_rfl) (by kernel_rfl) (fun _ _ _ h => h) (by kernel_rfl) (fun w => by rfl) rfl ?_; (try simp only [List.setIfInBounds_toArray, List.set_cons_zero, List.set_cons_succ]); refine wpAny_at 3 10 (.bool true) rfl (by kernel_rfl) (by kernel_rfl) (by kernel_rfl) (fun _ _ _ h => h) (by kernel_rfl) (fun w => by rfl) rfl ?_; (try simp only [List.setIfInBounds_toArray, List.set_cons_zero, List.set_cons_succ]); refine wpAny_skip 4 rfl (by kernel_rfl) (by kernel_rfl) (by kernel_rfl) (fun _ _ _ h => h) (by kernel_rfl) (by kernel_rfl) ?_; refine wpAny_skip 5 rfl (by kernel_rfl) (by kernel_rfl) (by kernel_rfl) (fun _ _ _ h => h) (by kernel_rfl) (by kernel_rfl) ?_; refine wpAny_skip 6 rfl (by kernel_rfl) (by kernel_rfl) (by kernel_rfl) (fun _ _ _ h => h) (by kernel_rfl) (by kernel_rfl) ?_; refine wpAny_at 7 14 (.bool true) rfl (by kernel_rfl) (by kernel_rfl) (by kernel_rfl) (fun _ _ _ h => h) (by kernel_rfl) (fun w => by rfl) rfl ?_; (try simp only [List.setIfInBounds_toArray, List.set_cons_zero, List.set_cons_succ]); refine wpAny_at 8 15 (.bool true) rfl (by kernel_rfl) (by kernel_rfl) (by kernel_rfl) (fun _ _ _ h => h) (by kernel_rfl) (fun w => by rfl) rfl ?_; (try simp only [List.setIfInBounds_toArray, List.set_cons_zero, List.set_cons_succ]); refine wpAny_skip 9 rfl (by kernel_rfl) (by kernel_rfl) (by kernel_rfl) (fun _ _ _ h => h) (by kernel_rfl) (by kernel_rfl) ?_; refine wpAny_skip 10 rfl (by kernel_rfl) (by kernel_rfl) (by kernel_rfl) (fun _ _ _ h => h) (by kernel_rfl) (by kernel_rfl) ?_; refine wpAny_skip 11 rfl (by kernel_rfl) (by kernel_rfl) (by kernel_rfl) (fun _ _ _ h => h) (by kernel_rfl) (by kernel_rfl) ?_; refine wpAny_skip 12 rfl (by kernel_rfl) (by kernel_rfl) (by kernel_rfl) (fun _ _ _ h => h) (by kernel_rfl) (by kernel_rfl) ?_; refine wpAny_skip 13 rfl (by kernel_rfl) (by kernel_rfl) (by kernel_rfl) (fun _ _ _ h => h) (by kernel_rfl) (by kernel_rfl) ?_; refine wpAny_skip 14 rfl (by kernel_rfl) (by kernel_rfl) (by kernel_rfl) (fun _ _ _ h => h) (by kernel_rfl) (by kernel_rfl) ?_; refine wpAny_skip 15 rfl (by kernel_rfl) (by kernel_rfl) (by kernel_rfl) (fun _ _ _ h => h) (by kernel_rfl) (by kernel_rfl) ?_; refine wpAny_at 16 23 (.bool true) rfl (by kernel_rfl) (by kernel_rfl) (by kernel_rfl) (fun _ _ _ h => h) (by kernel_rfl) (fun w => by rfl) rfl ?_; (try simp only [List.setIfInBounds_toArray, List.set_cons_zero, List.set_cons_succ])))
    all_goals
      go_wp2
      go_ret2
      rw [e.out]
      exact GiveMat.err HK.out
  | true =>
    obtain ⟨a1, a2, a3, a4, a5⟩ := mayB_iff.1 ma
    obtain ⟨b1, o1, p1, q1, rfl, d1⟩ := row0' HA.out a1
    cases mb : mayB 12 b with
    | false =>
      have e : Hid (mulM a b = ([], 4)) := by show _ = _; unfold mulM; rw [ma, mb]; rfl
      have MA := Lib.hid ma
      have MB := Lib.hid mb
      clear ha hb ma mb a1 a2 a3 a4 a5 d1
      go_enter Try.func27, Try.ntmps27
      go_wp2_with fail
      generalize (w.alloc (.cells #[.slice (some ⟨b1, o1, none⟩) a.length qa] 24)).alloc (.cells #[.slice pb b.length qb] 24) = w2 at *
      go_region_with (first | (go_at_call 30; (with_reducible refine Calls.mono (may_yes _ a _ ?_ MA.out) ?_); exact HA.out; rintro e w5 ⟨rfl, hk5⟩; have ca := keeps_cell hk5 ca; have cb := keeps_cell hk5 cb; have HA := Lib.hid (HA.out.keeps hk5); have HB := Lib.hid (HB.out.keeps hk5); have HK : Hid (Keeps w w5) := HK.out.call hk5 (Nat.le_refl _)) | (go_at_call 30; (with_reducible refine Calls.mono (may_no _ b _ ?_ MB.out) ?_); exact HB.out; rintro e w5 ⟨rfl, hk5⟩; have ca := keeps_cell hk5 ca; have cb := keeps_cell hk5 cb; have HA := Lib.hid (HA.out.keeps hk5); have HB := Lib.hid (HB.out.keeps hk5); have HK : Hid (Keeps w w5) := HK.out.call hk5 (Nat.le_refl _); go_wp2_with fail; refine wpAny_at 6 13 (.bool true) rfl (by kernel_rfl) (by kernel_rfl) (by kernel_rfl) (fun _ _ _ h => h) (by kernel_rfl) (fun w => by rfl) rfl ?_; (try simp only [List.setIfInBounds_toArray, List.set_cons_zero, List.set_cons_succ]); refine wpAny_at 7 14 (.bool true) rfl (by kernel_rfl) (by kernel_rfl) (by kernel_rfl) (fun _ _ _ h => h) (by kernel_rfl) (fun w => by rfl) rfl ?_; (try simp only [List.setIfInBounds_toArray, List.set_cons_zero, List.set_cons_succ]); refine wpAny_at 8 15 (.bool true) rfl (by kernel_rfl) (by kernel_rfl) (by kernel_rfl) (fun _ _ _ h => h) (by kernel_rfl) (fun w => by rfl) rfl ?_; (try simp only [List.setIfInBounds_toArray, List.set_cons_zero, List.set_cons_succ]); refine wpAny_skip 9 rfl (by kernel_rfl) (by kernel_rfl) (by kernel_rfl) (fun _ _ _ h => h) (by kernel_rfl) (by kernel_rfl) ?_; refine wpAny_skip 10 rfl (by kernel_rfl) (by kernel_rfl) (by kernel_rfl) (fun _ _ _ h => h) (by kernel_rfl) (by kernel_rfl) ?_; refine wpAny_skip 11 rfl (by kernel_rfl) (by kernel_rfl) (by kernel_rfl) (fun _ _ _ h => h) (by kernel_rfl) (by kernel_rfl) ?_; refine wpAny_skip 12 rfl (by kernel_rfl) (by kernel_rfl) (by kernel_rfl) (fun _ _ _ h => h) (by kernel_rfl) (by kernel_rfl) ?_; refine wpAny_skip 13 rfl (by kernel_rfl) (by kernel_rfl) (by kernel_rfl) (fun _ _ _ h => h) (by kernel_rfl) (by kernel_rfl) ?_; refine wpAny_skip 14 rfl (by kernel_rfl) (by kernel_rfl) (by kernel_rfl) (fun _ _ _ h => h) (by kernel_rfl) (by kernel_rfl) ?_; refine wpAny_skip 15 rfl (by kernel_rfl) (by kernel_rfl) (by kernel_rfl) (fun _ _ _ h => h) (by kernel_rfl) (by kernel_rfl) ?_; refine wpAny_at 16 23 (.bool true) rfl (by kernel_rfl) (by kernel_rfl) (by kernel_rfl) (fun _ _ _ h => h) (by kernel_rfl) (fun w => by rfl) rfl ?_; (try simp only [List.setIfInBounds_toArray, List.set_cons_zero, List.set_cons_succ])))
      all_goals
        go_wp2
        go_ret2
        rw [e.out]
        exact GiveMat.err HK.out
    | true =>
      obtain ⟨b1', b2', b3, b4, b5⟩ := mayB_iff.1 mb
      obtain ⟨b2, o2, p2, q2, rfl, d2⟩ := row0' HB.out b1'
      have MA := Lib.hid ma
      have MB := Lib.hid mb
      clear ha hb ma mb
      have i1 : (0 : Int) < (a.length : Int) := by omega
      have i2 : (0 : Int) < (b.length : Int) := by omega
      have i3 : 0 < a.length := by omega
      have i4 : 0 < b.length := by omega
      obtain ⟨na, hna⟩ : ∃ na, na = (a.headD []).length := ⟨_, rfl⟩
      obtain ⟨nb, hnb⟩ : ∃ nb, nb = (b.headD []).length := ⟨_, rfl⟩
      rw [← hna] at a3 a4 d1
      rw [← hnb] at b3 b4 d2
      clear a5 b5
      have HNA := Lib.hid hna
      have HNB := Lib.hid hnb
      clear hna hnb
      by_cases hl : na = b.length
      · have e : Hid (mulM a b = (matOf a.length nb (prodAt a b), 0)) := by show _ = _; unfold mulM; rw [MA.out, MB.out, ← HNA.out, ← HNB.out, decide_eq_true hl]; rfl
        have hne : ((na : Int) != (b.length : Int)) = false := by rw [bne_eq_false_iff_eq, hl]
        have HL := Lib.hid hl
        clear hl
        go_enter Try.func27, Try.ntmps27
        go_wp2_with fail
        generalize (w.alloc (.cells #[.slice (some ⟨b1, o1, none⟩) a.length qa] 24)).alloc (.cells #[.slice (some ⟨b2, o2, none⟩) b.length qb] 24) = w2 at *
        go_region_held3 (fun w' => w'.cell? ⟨w.heap.size, 0, none⟩ = some (.slice (some ⟨b1, o1, none⟩) a.length qa) ∧ w'.cell? ⟨w.heap.size + 1, 0, none⟩ = some (.slice (some ⟨b2, o2, none⟩) b.length qb) ∧ w'.cell? ⟨b1, o1, none⟩ = some (.slice p1 na q1)) (exact ⟨ca, cb, d1⟩) (first | (go_at_call 30; (with_reducible refine Calls.mono (may_yes _ a _ ?_ MA.out) ?_); exact HA.out; rintro e w5 ⟨rfl, hk5⟩; have ca := keeps_cell hk5 ca; have cb := keeps_cell hk5 cb; have HA := Lib.hid (HA.out.keeps hk5); have HB := Lib.hid (HB.out.keeps hk5); have HK : Hid (Keeps w w5) := HK.out.call hk5 (Nat.le_refl _); have d1 := keeps_cell hk5 d1; have d2 := keeps_cell hk5 d2) | (go_at_call 30; (with_reducible refine Calls.mono (may_yes _ b _ ?_ MB.out) ?_); exact HB.out; rintro e w5 ⟨rfl, hk5⟩; have ca := keeps_cell hk5 ca; have cb := keeps_cell hk5 cb; have HA := Lib.hid (HA.out.keeps hk5); have HB := Lib.hid (HB.out.keeps hk5); have HK : Hid (Keeps w w5) := HK.out.call hk5 (Nat.le_refl _); have d1 := keeps_cell hk5 d1; have d2 := keeps_cell hk5 d2))
        all_goals
          go_wp2_with fail
          refine Calls.mono (new_any _) ?_
          rintro e w3 ⟨rfl, hk3, ht⟩
          have ca := keeps_cell hk3 ca
          have cb := keeps_cell hk3 cb
          have d2 := keeps_cell hk3 d2
          have HA := Lib.hid (HA.out.keeps hk3)
          have HB := Lib.hid (HB.out.keeps hk3)
          have HK : Hid (Keeps w w3) := HK.out.call hk3 (Nat.le_refl _)
          have l1 := cell_lt ca
          have l2 := cell_lt cb
          have l3 := cell_lt d2
          have hk4 : Keeps w3 (w3.alloc (.cells #[.pointer (some ⟨w5.heap.size, 0, none⟩)] 42)) := (Kept.refl _ _).alloc (Nat.le_refl _) _
          have ca := keeps_cell hk4 ca
          have cb := keeps_cell hk4 cb
          have d2 := keeps_cell hk4 d2
          have HA := Lib.hid (HA.out.keeps hk4)
          have HB := Lib.hid (HB.out.keeps hk4)
          have HT := Lib.hid (Tab.keeps ht hk4)
          have HK : Hid (Keeps w (w3.alloc (.cells #[.pointer (some ⟨w5.heap.size, 0, none⟩)] 42))) := HK.out.call hk4 (Nat.le_refl _)
          have cf : (w3.alloc (.cells #[.pointer (some ⟨w5.heap.size, 0, none⟩)] 42)).cell? ⟨w3.heap.size, 0, none⟩ = some (.pointer (some ⟨w5.heap.size, 0, none⟩)) := World.cell?_alloc_new _ _ _ _
          clear ht hk4
          go_wp2_with fail
          generalize w3.alloc (.cells #[.pointer (some ⟨w5.heap.size, 0, none⟩)] 42) = w4 at *
          go_region_held3 (fun w' => w'.cell? ⟨w.heap.size, 0, none⟩ = some (.slice (some ⟨b1, o1, none⟩) a.length qa) ∧ w'.cell? ⟨w.heap.size + 1, 0, none⟩ = some (.slice (some ⟨b2, o2, none⟩) b.length qb) ∧ w'.cell? ⟨b2, o2, none⟩ = some (.slice p2 nb q2)) (exact ⟨ca, cb, d2⟩) (first | (go_at_call 55; refine Calls.mono (made_any a.length nb 60 _ (prodAt a b) _ ?_ ?_ enters_mulcl (fun wx hx i j hi hj => mulcl_any _ _ a b i j _ _ _ _ wx (MatAt.keeps (w := w4) HA.out hx) (MatAt.keeps (w := w4) HB.out hx) MA.out MB.out (HNA.out ▸ HL.out) hi (HNB.out ▸ hj) (Tab.keeps (w := w4) HT.out hx) (keeps_cell (w := w4) hx cf) (keeps_cell (w := w4) hx cb) (keeps_cell (w := w4) hx ca))) ?_; omega; omega; rintro e w6 ⟨v6, rfl, hm6, hk6⟩; have ca := keeps_cell hk6 ca; have cb := keeps_cell hk6 cb; have d2 := keeps_cell hk6 d2))
          all_goals
            go_wp2
            go_ret2
            rw [e.out]
            exact ⟨_, rfl, MatIn.mono hm6 fun b hb => Nat.le_trans HK.out.size hb, HK.out.call hk6 (Nat.le_refl _)⟩
      · have e : Hid (mulM a b = ([], 4)) := by show _ = _; unfold mulM; rw [MA.out, MB.out, ← HNA.out, decide_eq_false hl]; rfl
        have hne : ((na : Int) != (b.length : Int)) = true := by rw [bne_iff_ne]; omega
        clear hl
        go_enter Try.func27, Try.ntmps27
        go_wp2_with fail
        generalize (w.alloc (.cells #[.slice (some ⟨b1, o1, none⟩) a.length qa] 24)).alloc (.cells #[.slice (some ⟨b2, o2, none⟩) b.length qb] 24) = w2 at *
        go_region_held3 (fun w' => w'.cell? ⟨w.heap.size, 0, none⟩ = some (.slice (some ⟨b1, o1, none⟩) a.length qa) ∧ w'.cell? ⟨w.heap.size + 1, 0, none⟩ = some (.slice (some ⟨b2, o2, none⟩) b.length qb) ∧ w'.cell? ⟨b1, o1, none⟩ = some (.slice p1 na q1)) (exact ⟨ca, cb, d1⟩) (first | (go_at_call 30; (with_reducible refine Calls.mono (may_yes _ a _ ?_ MA.out) ?_); exact HA.out; rintro e w5 ⟨rfl, hk5⟩; have ca := keeps_cell hk5 ca; have cb := keeps_cell hk5 cb; have HA := Lib.hid (HA.out.keeps hk5); have HB := Lib.hid (HB.out.keeps hk5); have HK : Hid (Keeps w w5) := HK.out.call hk5 (Nat.le_refl _); have d1 := keeps_cell hk5 d1; have d2 := keeps_cell hk5 d2) | (go_at_call 30; (with_reducible refine Calls.mono (may_yes _ b _ ?_ MB.out) ?_); exact HB.out; rintro e w5 ⟨rfl, hk5⟩; have ca := keeps_cell hk5 ca; have cb := keeps_cell hk5 cb; have HA := Lib.hid (HA.out.keeps hk5); have HB := Lib.hid (HB.out.keeps hk5); have HK : Hid (Keeps w w5) := HK.out.call hk5 (Nat.le_refl _); have d1 := keeps_cell hk5 d1; have d2 := keeps_cell hk5 d2))
        all_goals
          go_wp2
          go_ret2
          rw [e.out]
          exact GiveMat.err HK.out
end Go.Proofs.Ytojdodbedemkoaa
