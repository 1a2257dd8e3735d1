/- The walks of matrix.May, solve.may and what they call. -/
import Derived.Test.YtllfhaocdknejaaDoorMatOf
namespace Go.Proofs.YtllfhaocdknejaaDoor
open Go.RowKit

/-- May a matrix be, of so many rows and columns at most? -/
def mayB (top : Nat) (m : List (List UInt8)) : Bool := decide (1 ≤ m.length ∧ m.length ≤ top ∧ 1 ≤ (m.headD []).length ∧ (m.headD []).length ≤ top ∧ ∀ r ∈ m, r.length = (m.headD []).length)

set_option maxRecDepth 100000 in
set_option maxHeartbeats 1000000 in
theorem index_any (va : Value) (m : List (List UInt8)) (fn : FuncId) (caps : Array Value) (p : List UInt8 → Bool) (w : World) (hm : MatAt w.heap va m)
    (hcf : ∀ (xs : Array Value) (wx : World), (callFunc fn xs).run Tryd.prog wx = .ok (.enter fn xs) wx)
    (hf : ∀ wx, Keeps w wx → ∀ u r, RowAt wx.heap u r → Calls Tryd.prog fn (#[u] ++ caps) wx fun e w' => e = .returned (.bool (p r)) ∧ Keeps wx w') :
    Calls Tryd.prog 73 #[va, .func (.func fn) #[] caps] w fun e w' => (∃ n : Int, e = .returned (.int .i64 n) ∧ decide (0 ≤ n) = m.any p) ∧ Keeps w w' := by
  have HM := Lib.hid hm
  obtain ⟨a, ca, rfl, hla, hea⟩ := hm
  have HF := Lib.hid hf
  clear hea hf
  go_enter Tryd.func73, Tryd.ntmps73
  go_wp2
  go_loopw [8] (fun i wr => ∃ k : Nat, k ≤ m.length ∧ i = .int .i64 k ∧ Hid (∀ j (h : j < m.length), j < k → p m[j] = false) ∧ Hid (Keeps w wr)) (fun i _ => m.length - (intOf i).toNat)
  case atStart => exact ⟨0, by omega, rfl, fun j _ h => by omega, keeps_refl w⟩
  case round =>
    obtain ⟨k, hk, rfl, hno, hkw⟩ := hrel
    by_cases hlt : k < m.length
    · obtain ⟨a', ca', e0, _, hea⟩ := HM.out.keeps hkw.out
      injection e0 with e2 e3 e4
      subst e2 e4
      obtain ⟨b, off, u, rfl, c1, r1⟩ := hea k hlt
      rw [← cell_of] at c1
      have hlt64 : (k : Int) < (m.length : Int) := by omega
      clear hea
      go_wp2_with fail
      refine Calls.mono (HF.out _ hkw.out _ _ r1) ?_
      rintro e w3 ⟨rfl, hk3⟩
      have hk4 : Keeps w w3 := hkw.out.call hk3 (Nat.le_refl _)
      cases hp : p m[k] with
      | true =>
        go_wp2
        go_ret
        exact ⟨⟨_, rfl, by rw [decide_eq_true (by omega)]; exact (List.any_eq_true.2 ⟨_, List.getElem_mem hlt, hp⟩).symm⟩, hk4⟩
      | false =>
        go_wp2
        refine ⟨⟨k + 1, by omega, rfl, fun j h hj => ?_, hk4⟩, by simp [intOf]; omega⟩
        by_cases e : j = k
        · subst e; exact hp
        · exact hno.out j h (by omega)
    · obtain rfl : k = m.length := by omega
      go_wp2
      go_ret
      refine ⟨⟨_, rfl, ?_⟩, hkw.out⟩
      rw [decide_eq_false (by omega)]
      refine (List.any_eq_false.2 fun r hr => ?_).symm
      obtain ⟨j, hj, rfl⟩ := List.getElem_of_mem hr
      rw [hno.out j hj hj]; simp

set_option maxHeartbeats 1000000 in
theorem contains_any (va : Value) (m : List (List UInt8)) (fn : FuncId) (caps : Array Value) (p : List UInt8 → Bool) (w : World) (hm : MatAt w.heap va m)
    (hcf : ∀ (xs : Array Value) (wx : World), (callFunc fn xs).run Tryd.prog wx = .ok (.enter fn xs) wx)
    (hf : ∀ wx, Keeps w wx → ∀ u r, RowAt wx.heap u r → Calls Tryd.prog fn (#[u] ++ caps) wx fun e w' => e = .returned (.bool (p r)) ∧ Keeps wx w') :
    Calls Tryd.prog 62 #[va, .func (.func fn) #[] caps] w fun e w' => e = .returned (.bool (m.any p)) ∧ Keeps w w' := by
  have HM := Lib.hid hm
  have HF := Lib.hid hf
  clear hm hf
  go_enter Tryd.func62, Tryd.ntmps62
  go_wp2_with fail
  refine Calls.mono (index_any _ m fn caps p _ HM.out hcf HF.out) ?_
  rintro e w1 ⟨⟨n, rfl, hn⟩, hk⟩
  by_cases h : 0 ≤ n
  · rw [decide_eq_true h] at hn
    have HN := Lib.hid hn
    clear hn
    go_wp2
    go_ret
    exact ⟨by rw [← HN.out]; rfl, hk⟩
  · rw [decide_eq_false h] at hn
    have HN := Lib.hid hn
    clear hn
    go_wp2
    go_ret
    exact ⟨by rw [← HN.out]; simp; omega, hk⟩

theorem row0 {w : World} {va : Value} {m : List (List UInt8)} (h : MatAt w.heap va m) (h1 : 1 ≤ m.length) : ∃ b off c a ca, va = .slice (some ⟨b, off, none⟩) m.length c ∧ w.cell? ⟨b, off, none⟩ = some (.slice a (m.headD []).length ca) := by
  obtain ⟨a, ca, rfl, hla, hea⟩ := h
  obtain ⟨b, off, u, rfl, c1, r1⟩ := hea 0 (by omega)
  obtain ⟨a', ca', rfl, _, _⟩ := r1
  rw [← cell_of] at c1
  refine ⟨b, off, ca, a', ca', rfl, ?_⟩
  cases m with
  | nil => simp at h1
  | cons r m => exact c1

set_option maxHeartbeats 1000000 in
theorem maycl_any (u va : Value) (r : List UInt8) (m : List (List UInt8)) (bc : Nat) (w : World) (hu : RowAt w.heap u r) (hc : w.cell? ⟨bc, 0, none⟩ = some va) (hm : MatAt w.heap va m) (h1 : 1 ≤ m.length) :
    Calls Tryd.prog 63 #[u, .pointer (some ⟨bc, 0, none⟩)] w fun e w' => e = .returned (.bool (!decide (r.length = (m.headD []).length))) ∧ Keeps w w' := by
  obtain ⟨a, ca, rfl, hla, hea⟩ := hu
  obtain ⟨b, off, c, a', ca', rfl, c0⟩ := row0 hm h1
  clear hm hea
  by_cases h : r.length = (m.headD []).length
  · have hb : (((r.length : Nat) : Int) != (((m.headD []).length : Nat) : Int)) = false := by rw [bne_eq_false_iff_eq, h]
    rw [decide_eq_true h]
    generalize m.headD [] = q at *
    generalize r.length = n1 at *
    generalize q.length = n2 at *
    clear h
    go_enter Tryd.func63, Tryd.ntmps63
    go_wp2
    go_ret
    exact ⟨rfl, keeps_refl _⟩
  · have hb : (((r.length : Nat) : Int) != (((m.headD []).length : Nat) : Int)) = true := by rw [bne_iff_ne]; omega
    rw [decide_eq_false h]
    generalize m.headD [] = q at *
    generalize r.length = n1 at *
    generalize q.length = n2 at *
    clear h
    go_enter Tryd.func63, Tryd.ntmps63
    go_wp2
    go_ret
    exact ⟨rfl, keeps_refl _⟩
theorem enters_maycl (xs : Array Value) (w : World) : (callFunc 63 xs).run Tryd.prog w = .ok (.enter 63 xs) w := enters_body Tryd.func63 (by kernel_rfl) rfl xs w

set_option maxHeartbeats 1000000 in
theorem may_any (va : Value) (m : List (List UInt8)) (w : World) (hm : MatAt w.heap va m) :
    Calls Tryd.prog 49 #[va] w fun e w' => e = .returned (.bool (mayB 12 m)) ∧ Keeps w w' := by
  have hmf : ∀ (fn : Fn) (first cap : Array Value) (w : World), (Instr.makeFunc fn first cap).run Tryd.prog w = .ok (.func fn first cap) w := fun _ _ _ _ => rfl
  have HM := Lib.hid hm
  by_cases h1 : 1 ≤ m.length
  · obtain ⟨b, off, c, a', ca', rfl, c0⟩ := row0 hm h1
    have hb0 := cell_lt c0
    clear hm
    have HL := Lib.hid (show 1 ≤ m.length from h1)
    by_cases h2 : m.length ≤ 12
    · by_cases h3 : 1 ≤ (m.headD []).length
      · by_cases h4 : (m.headD []).length ≤ 12
        · have hk0 : Hid (Keeps w (w.alloc (.cells #[.slice (some ⟨b, off, none⟩) m.length c] 48))) := (Kept.refl _ _).alloc (Nat.le_refl _) _
          have hm0 : Hid (MatAt (w.alloc (.cells #[.slice (some ⟨b, off, none⟩) m.length c] 48)).heap (.slice (some ⟨b, off, none⟩) m.length c) m) := HM.out.keeps hk0.out
          have cv : Hid ((w.alloc (.cells #[.slice (some ⟨b, off, none⟩) m.length c] 48)).cell? ⟨w.heap.size, 0, none⟩ = some (.slice (some ⟨b, off, none⟩) m.length c)) := World.cell?_alloc_new _ _ _ _
          have he : Hid (mayB 12 m = !m.any fun r => !decide (r.length = (m.headD []).length)) := by
            show _ = _
            unfold mayB
            rw [Bool.eq_iff_iff]
            simp only [decide_eq_true_eq, List.any_eq_false, Bool.not_eq_eq_eq_not, Bool.not_true, decide_eq_false_iff_not]
            constructor
            · intro h r hr; simpa using h.2.2.2.2 r hr
            · intro h; exact ⟨h1, h2, h3, h4, fun r hr => by simpa using h r hr⟩
          generalize hq : (m.headD []).length = n2 at *
          go_enter Tryd.func49, Tryd.ntmps49
          go_wp2_with fail
          refine Calls.mono (contains_any _ m 63 #[.pointer (some ⟨w.heap.size, 0, none⟩)] (fun r => !decide (r.length = n2)) _ hm0.out enters_maycl fun wx hx u r hr => Calls.mono (maycl_any u _ r m w.heap.size wx hr (keeps_cell hx cv.out) (hm0.out.keeps hx) HL.out) ?_) ?_
          · rintro e w' ⟨rfl, hk⟩
            exact ⟨by rw [hq], hk⟩
          rintro e w1 ⟨rfl, hk⟩
          go_wp2
          go_ret
          exact ⟨by rw [he.out]; rfl, hk0.out.call hk (Nat.le_refl _)⟩
        · have he : Hid (mayB 12 m = false) := decide_eq_false fun h => h4 h.2.2.2.1
          generalize (m.headD []).length = n2 at *
          go_enter Tryd.func49, Tryd.ntmps49
          go_wp2
          go_ret
          exact ⟨by rw [he.out]; rfl, (Kept.refl _ _).alloc (Nat.le_refl _) _⟩
      · have he : Hid (mayB 12 m = false) := decide_eq_false fun h => h3 h.2.2.1
        generalize (m.headD []).length = n2 at *
        go_enter Tryd.func49, Tryd.ntmps49
        go_wp2
        go_ret
        exact ⟨by rw [he.out]; rfl, (Kept.refl _ _).alloc (Nat.le_refl _) _⟩
    · have he : Hid (mayB 12 m = false) := decide_eq_false fun h => h2 h.2.1
      clear c0
      go_enter Tryd.func49, Tryd.ntmps49
      go_wp2
      go_ret
      exact ⟨by rw [he.out]; rfl, (Kept.refl _ _).alloc (Nat.le_refl _) _⟩
  · have he : Hid (mayB 12 m = false) := decide_eq_false fun h => h1 h.1
    obtain ⟨a, ca, rfl, hla, hea⟩ := hm
    clear hea
    go_enter Tryd.func49, Tryd.ntmps49
    go_wp2
    go_ret
    exact ⟨by rw [he.out]; rfl, (Kept.refl _ _).alloc (Nat.le_refl _) _⟩

set_option maxHeartbeats 1000000 in
theorem smaycl_any (u va : Value) (r : List UInt8) (m : List (List UInt8)) (bc : Nat) (w : World) (hu : RowAt w.heap u r) (hc : w.cell? ⟨bc, 0, none⟩ = some va) (hm : MatAt w.heap va m) (h1 : 1 ≤ m.length) :
    Calls Tryd.prog 64 #[u, .pointer (some ⟨bc, 0, none⟩)] w fun e w' => e = .returned (.bool (!decide (r.length = (m.headD []).length))) ∧ Keeps w w' := by
  obtain ⟨a, ca, rfl, hla, hea⟩ := hu
  obtain ⟨b, off, c, a', ca', rfl, c0⟩ := row0 hm h1
  clear hm hea
  by_cases h : r.length = (m.headD []).length
  · have hb : (((r.length : Nat) : Int) != (((m.headD []).length : Nat) : Int)) = false := by rw [bne_eq_false_iff_eq, h]
    rw [decide_eq_true h]
    generalize m.headD [] = q at *
    generalize r.length = n1 at *
    generalize q.length = n2 at *
    clear h
    go_enter Tryd.func64, Tryd.ntmps64
    go_wp2
    go_ret
    exact ⟨rfl, keeps_refl _⟩
  · have hb : (((r.length : Nat) : Int) != (((m.headD []).length : Nat) : Int)) = true := by rw [bne_iff_ne]; omega
    rw [decide_eq_false h]
    generalize m.headD [] = q at *
    generalize r.length = n1 at *
    generalize q.length = n2 at *
    clear h
    go_enter Tryd.func64, Tryd.ntmps64
    go_wp2
    go_ret
    exact ⟨rfl, keeps_refl _⟩
theorem enters_smaycl (xs : Array Value) (w : World) : (callFunc 64 xs).run Tryd.prog w = .ok (.enter 64 xs) w := enters_body Tryd.func64 (by kernel_rfl) rfl xs w

set_option maxHeartbeats 1000000 in
theorem smay_any (va : Value) (m : List (List UInt8)) (w : World) (hm : MatAt w.heap va m) :
    Calls Tryd.prog 50 #[va] w fun e w' => e = .returned (.bool (mayB 255 m)) ∧ Keeps w w' := by
  have hmf : ∀ (fn : Fn) (first cap : Array Value) (w : World), (Instr.makeFunc fn first cap).run Tryd.prog w = .ok (.func fn first cap) w := fun _ _ _ _ => rfl
  have HM := Lib.hid hm
  by_cases h1 : 1 ≤ m.length
  · obtain ⟨b, off, c, a', ca', rfl, c0⟩ := row0 hm h1
    have hb0 := cell_lt c0
    clear hm
    have HL := Lib.hid (show 1 ≤ m.length from h1)
    by_cases h2 : m.length ≤ 255
    · by_cases h3 : 1 ≤ (m.headD []).length
      · by_cases h4 : (m.headD []).length ≤ 255
        · have hk0 : Hid (Keeps w (w.alloc (.cells #[.slice (some ⟨b, off, none⟩) m.length c] 48))) := (Kept.refl _ _).alloc (Nat.le_refl _) _
          have hm0 : Hid (MatAt (w.alloc (.cells #[.slice (some ⟨b, off, none⟩) m.length c] 48)).heap (.slice (some ⟨b, off, none⟩) m.length c) m) := HM.out.keeps hk0.out
          have cv : Hid ((w.alloc (.cells #[.slice (some ⟨b, off, none⟩) m.length c] 48)).cell? ⟨w.heap.size, 0, none⟩ = some (.slice (some ⟨b, off, none⟩) m.length c)) := World.cell?_alloc_new _ _ _ _
          have he : Hid (mayB 255 m = !m.any fun r => !decide (r.length = (m.headD []).length)) := by
            show _ = _
            unfold mayB
            rw [Bool.eq_iff_iff]
            simp only [decide_eq_true_eq, List.any_eq_false, Bool.not_eq_eq_eq_not, Bool.not_true, decide_eq_false_iff_not]
            constructor
            · intro h r hr; simpa using h.2.2.2.2 r hr
            · intro h; exact ⟨h1, h2, h3, h4, fun r hr => by simpa using h r hr⟩
          generalize hq : (m.headD []).length = n2 at *
          go_enter Tryd.func50, Tryd.ntmps50
          go_wp2_with fail
          refine Calls.mono (contains_any _ m 64 #[.pointer (some ⟨w.heap.size, 0, none⟩)] (fun r => !decide (r.length = n2)) _ hm0.out enters_smaycl fun wx hx u r hr => Calls.mono (smaycl_any u _ r m w.heap.size wx hr (keeps_cell hx cv.out) (hm0.out.keeps hx) HL.out) ?_) ?_
          · rintro e w' ⟨rfl, hk⟩
            exact ⟨by rw [hq], hk⟩
          rintro e w1 ⟨rfl, hk⟩
          go_wp2
          go_ret
          exact ⟨by rw [he.out]; rfl, hk0.out.call hk (Nat.le_refl _)⟩
        · have he : Hid (mayB 255 m = false) := decide_eq_false fun h => h4 h.2.2.2.1
          generalize (m.headD []).length = n2 at *
          go_enter Tryd.func50, Tryd.ntmps50
          go_wp2
          go_ret
          exact ⟨by rw [he.out]; rfl, (Kept.refl _ _).alloc (Nat.le_refl _) _⟩
      · have he : Hid (mayB 255 m = false) := decide_eq_false fun h => h3 h.2.2.1
        generalize (m.headD []).length = n2 at *
        go_enter Tryd.func50, Tryd.ntmps50
        go_wp2
        go_ret
        exact ⟨by rw [he.out]; rfl, (Kept.refl _ _).alloc (Nat.le_refl _) _⟩
    · have he : Hid (mayB 255 m = false) := decide_eq_false fun h => h2 h.2.1
      clear c0
      go_enter Tryd.func50, Tryd.ntmps50
      go_wp2
      go_ret
      exact ⟨by rw [he.out]; rfl, (Kept.refl _ _).alloc (Nat.le_refl _) _⟩
  · have he : Hid (mayB 255 m = false) := decide_eq_false fun h => h1 h.1
    obtain ⟨a, ca, rfl, hla, hea⟩ := hm
    clear hea
    go_enter Tryd.func50, Tryd.ntmps50
    go_wp2
    go_ret
    exact ⟨by rw [he.out]; rfl, (Kept.refl _ _).alloc (Nat.le_refl _) _⟩

theorem may_no (va : Value) (m : List (List UInt8)) (w : World) (hm : MatAt w.heap va m) (h : mayB 12 m = false) : Calls Tryd.prog 49 #[va] w fun e w' => e = .returned (.bool false) ∧ Keeps w w' := by
  have := may_any va m w hm; rw [h] at this; exact this
theorem may_yes (va : Value) (m : List (List UInt8)) (w : World) (hm : MatAt w.heap va m) (h : mayB 12 m = true) : Calls Tryd.prog 49 #[va] w fun e w' => e = .returned (.bool true) ∧ Keeps w w' := by
  have := may_any va m w hm; rw [h] at this; exact this
theorem mayB_iff {t : Nat} {m : List (List UInt8)} : mayB t m = true ↔ 1 ≤ m.length ∧ m.length ≤ t ∧ 1 ≤ (m.headD []).length ∧ (m.headD []).length ≤ t ∧ ∀ r ∈ m, r.length = (m.headD []).length := by unfold mayB; simp
theorem may_row {t : Nat} {m : List (List UInt8)} (h : mayB t m = true) {i : Nat} (hi : i < m.length) : (m.getD i []).length = (m.headD []).length := by
  have := (mayB_iff.1 h).2.2.2.2 m[i] (List.getElem_mem hi)
  rw [List.getD_eq_getElem?_getD, List.getElem?_eq_getElem hi]; exact this
/-- A matrix's row and a number of it, where they lie. -/
theorem mat_row {w : World} {va : Value} {m : List (List UInt8)} (h : MatAt w.heap va m) {i : Nat} (hi : i < m.length) : ∃ b off c u, va = .slice (some ⟨b, off, none⟩) m.length c ∧ w.cell? ⟨b, off + i, none⟩ = some u ∧ RowAt w.heap u (m.getD i []) := by
  obtain ⟨a, ca, rfl, hla, hea⟩ := h
  obtain ⟨b, off, u, rfl, c1, r1⟩ := hea i hi
  rw [← cell_of] at c1
  refine ⟨b, off, ca, u, rfl, c1, ?_⟩
  rw [List.getD_eq_getElem?_getD, List.getElem?_eq_getElem hi]; exact r1
theorem row_cell {w : World} {va : Value} {r : List UInt8} (h : RowAt w.heap va r) {j : Nat} (hj : j < r.length) : ∃ b off c, va = .slice (some ⟨b, off, none⟩) r.length c ∧ w.cell? ⟨b, off + j, none⟩ = some (.int .u8 ((r.getD j 0).toNat : Int)) := by
  obtain ⟨a, ca, rfl, hla, hea⟩ := h
  obtain ⟨b, off, u, rfl, c1, r1⟩ := hea j hj
  rw [← cell_of, r1] at c1
  refine ⟨b, off, ca, rfl, ?_⟩
  rw [List.getD_eq_getElem?_getD, List.getElem?_eq_getElem hj]; exact c1
theorem range_at {n k : Nat} (f : Nat → UInt8) (h : k < n) : ((List.range n).map f).getD k 0 = f k := by
  rw [List.getD_eq_getElem?_getD, List.getElem?_map, List.getElem?_range h]; rfl
end Go.Proofs.YtllfhaocdknejaaDoor
