/- The walk of the reference's Same: of the same packs it tells true. -/
import Derived.Test.YteandjophamipaaGPk
import Derived.Laws.StructEq
namespace Go.Proofs.Yteandjophamipaa
open Go.RowKit
attribute [local go_sem ↓] Go.wp_at_zero Go.wp_at_succ
/-- The cells of a pack, to be read alone. -/
def IsPkA (h : Array Obj) (us : List Value) (g : List ByteArray) : Prop :=
  ∃ c p, us = [.string (strB (blobP g)), .string (dgP g), c, p] ∧ TextsAt h c (g.map dgT) ∧ RecAt 3 IsPlace h p (placesP g)
theorem IsPack.atA {S : Nat → Prop} {h : Array Obj} {us : List Value} {g : List ByteArray} (k : IsPack S h us g) : IsPkA h us g := by
  obtain ⟨c, p, e, h1, h2⟩ := k
  exact ⟨c, p, e, SeqIn.at_ h1, h2.at_⟩
theorem IsPkA.keeps {w w' : World} {us : List Value} {g : List ByteArray} (k : IsPkA w.heap us g) (c : Keeps w w') : IsPkA w'.heap us g := by
  obtain ⟨a, p, e, h1, h2⟩ := k
  exact ⟨a, p, e, SeqAt.keeps h1 c, h2.keeps c⟩
abbrev PacksA (h : Array Obj) (v : Value) (gs : List (List ByteArray)) : Prop := RecAt 4 (IsPkA h) h v gs
theorem PacksA.keeps {w w' : World} {v : Value} {gs : List (List ByteArray)} (k : PacksA w.heap v gs) (c : Keeps w w') : PacksA w'.heap v gs := RecAt.keepsR k c fun _ _ _ x => x.keeps c
theorem run_plNe (D : ByteArray) (a b : Int) (w : World) : (binOp .neq 54 (.agg #[.string D, .int .i64 a, .int .i64 b]) (.agg #[.string D, .int .i64 a, .int .i64 b])).run Try.prog w = .ok (.bool false) w := by go_simp
theorem digs_at {g : List ByteArray} {k : Nat} (h : k < g.length) : (g.map dgT)[k]'(by rw [List.length_map]; exact h) = dgT (atP g k) := by rw [List.getElem_map, atP_get h]
theorem seq_cellP {α : Type} {R : Value → α → Prop} {w : World} {p : Option Addr} {n c : Nat} {l : List α} (h : SeqAt R w.heap (.slice p n c) l) {i : Nat} (hi : i < l.length) : ∃ b off u, p = some ⟨b, off, none⟩ ∧ w.cell? ⟨b, off + i, none⟩ = some u ∧ R u l[i] := by
  obtain ⟨b, off, c', u, e, c1, r1⟩ := seq_cell h hi
  injection e with e1 _ _
  exact ⟨b, off, u, e1, c1, r1⟩
theorem rec_cellP {α : Type} {k : Nat} {R : List Value → α → Prop} {w : World} {p : Option Addr} {n c : Nat} {l : List α} (h : RecAt k R w.heap (.slice p n c) l) {i : Nat} (hi : i < l.length) : ∃ b off us, p = some ⟨b, off, none⟩ ∧ us.length = k ∧ (∀ j (hj : j < us.length), w.cell? ⟨b, off + i * k + j, none⟩ = some us[j]) ∧ R us l[i] := by
  obtain ⟨b, off, c', us, e, c1, c2, r1⟩ := rec_cell h hi
  injection e with e1 _ _
  exact ⟨b, off, us, e1, c1, c2, r1⟩
theorem dig_cell {w : World} {p : Option Addr} {n c : Nat} {g : List ByteArray} (h : TextsAt w.heap (.slice p n c) (g.map dgT)) {i : Nat} (hi : i < g.length) : ∃ b off, p = some ⟨b, off, none⟩ ∧ w.cell? ⟨b, off + i, none⟩ = some (.string (dgT (atP g i))) := by
  obtain ⟨b, off, u, e1, c1, r1⟩ := seq_cellP h (i := i) (by rw [List.length_map]; exact hi)
  rw [digs_at hi] at r1
  unfold IsText at r1
  exact ⟨b, off, e1, by rw [c1, r1]⟩
theorem place_cell {w : World} {p : Option Addr} {n c : Nat} {g : List ByteArray} (h : RecAt 3 IsPlace w.heap (.slice p n c) (placesP g)) {i : Nat} (hi : i < g.length) : ∃ b off, p = some ⟨b, off, none⟩ ∧ w.cell? ⟨b, off + i * 3, none⟩ = some (.string (dgP g)) ∧ w.cell? ⟨b, off + i * 3 + 1, none⟩ = some (.int .i64 (offP g i)) ∧ w.cell? ⟨b, off + i * 3 + 2, none⟩ = some (.int .i64 ((atP g i).size : Int)) := by
  obtain ⟨b, off, us, e1, c1, c2, r1⟩ := rec_cellP h (i := i) (by rw [places_length]; exact hi)
  rw [places_at hi] at r1
  unfold IsPlace at r1
  subst r1
  exact ⟨b, off, e1, c2 0 (by simp), c2 1 (by simp), c2 2 (by simp)⟩
set_option maxRecDepth 100000 in
set_option maxHeartbeats 4000000 in
theorem rsame_any (va vb : Value) (gs : List (List ByteArray)) (w : World) (ha : PacksA w.heap va gs) (hb : PacksA w.heap vb gs) : Calls Try.prog 31 #[va, vb] w fun e w' => e = .returned (.bool true) ∧ ∃ n, w' = w.drewN n := by
  have hgs : gs.length ≤ 9223372036854775807 := let ⟨_, _, _, x, _⟩ := ha; x
  obtain ⟨pa, qa, rfl⟩ := rec_shape ha
  obtain ⟨pb, qb, rfl⟩ := rec_shape hb
  have HA := Lib.hid ha
  have HB := Lib.hid hb
  have HPL := @run_plNe
  clear ha hb
  go_enter Try.func31, Try.ntmps31
  go_wp2_with fail
  go_loopw [5] (fun i wr => ∃ k : Nat, k ≤ gs.length ∧ i = .int .i64 k ∧ ∃ n, wr = w.drewN n) (fun i _ => gs.length - (intOf i).toNat)
  case atStart => exact ⟨0, by omega, rfl, 0, rfl⟩
  case round =>
    obtain ⟨k, hk, rfl, n0, rfl⟩ := hrel
    by_cases hlt : k < gs.length
    · have hlt64 : (k : Int) < (gs.length : Int) := by omega
      have hk0 : (0 : Int) ≤ (k : Int) := by omega
      obtain ⟨ba, oa, ca, us, e5, hus, hca, cA, pA, rfl, tA, qA⟩ := rec_cell HA.out hlt
      obtain ⟨bb, ob, cb, vs, f5, hvs, hcb, cB, pB, rfl, tB, qB⟩ := rec_cell HB.out hlt
      injection e5 with e6 e7 e8
      injection f5 with f6 f7 f8
      subst e6 e8 f6 f8
      obtain ⟨aA, nA, rfl⟩ := seq_shape tA
      obtain ⟨aB, nB, rfl⟩ := seq_shape tB
      obtain ⟨rA, mA, rfl⟩ := rec_shape qA
      obtain ⟨rB, mB, rfl⟩ := rec_shape qB
      rw [← grp_get hlt] at hca hcb tA tB qA qB
      have hgl : (grp gs k).length ≤ 9223372036854775807 := by obtain ⟨_, _, _, x, _⟩ := tA; rw [List.length_map] at x; exact x
      have K0 := Lib.hid (hca 0 (by simp))
      have K1 := Lib.hid (hca 1 (by simp))
      have K2 := Lib.hid (hca 2 (by simp))
      have K3 := Lib.hid (hca 3 (by simp))
      have L0 := Lib.hid (hcb 0 (by simp))
      have L1 := Lib.hid (hcb 1 (by simp))
      have L2 := Lib.hid (hcb 2 (by simp))
      have L3 := Lib.hid (hcb 3 (by simp))
      have TA := Lib.hid tA
      have TB := Lib.hid tB
      have QA := Lib.hid qA
      have QB := Lib.hid qB
      simp only [List.getElem_cons_zero, List.getElem_cons_succ, Nat.add_zero, List.length_map, places_length] at K0 K1 K2 K3 L0 L1 L2 L3
      simp only [List.length_map, places_length] at TA TB QA QB
      clear hus hvs hca hcb tA tB qA qB e7 f7
      have k0 : ∀ n, (w.drewN n).cell? ⟨ba, oa + k * 4, none⟩ = some (.string (strB (blobP (grp gs k)))) := fun n => K0.out
      have k1 : ∀ n, (w.drewN n).cell? ⟨ba, oa + k * 4 + 1, none⟩ = some (.string (dgP (grp gs k))) := fun n => K1.out
      have k2 : ∀ n, (w.drewN n).cell? ⟨ba, oa + k * 4 + 2, none⟩ = some (.slice aA (grp gs k).length nA) := fun n => K2.out
      have k3 : ∀ n, (w.drewN n).cell? ⟨ba, oa + k * 4 + 3, none⟩ = some (.slice rA (grp gs k).length mA) := fun n => K3.out
      have l0 : ∀ n, (w.drewN n).cell? ⟨bb, ob + k * 4, none⟩ = some (.string (strB (blobP (grp gs k)))) := fun n => L0.out
      have l1 : ∀ n, (w.drewN n).cell? ⟨bb, ob + k * 4 + 1, none⟩ = some (.string (dgP (grp gs k))) := fun n => L1.out
      have l2 : ∀ n, (w.drewN n).cell? ⟨bb, ob + k * 4 + 2, none⟩ = some (.slice aB (grp gs k).length nB) := fun n => L2.out
      have l3 : ∀ n, (w.drewN n).cell? ⟨bb, ob + k * 4 + 3, none⟩ = some (.slice rB (grp gs k).length mB) := fun n => L3.out
      clear K0 K1 K2 K3 L0 L1 L2 L3
      generalize grp gs k = g at *
      generalize strB (blobP g) = B at *
      go_wp2_with fail
      go_quiet (fail)
      go_wp2_with fail
      go_loopw [6] (fun i wr => ∃ t : Nat, t ≤ g.length ∧ i = .int .i64 t ∧ ∃ n, wr = w.drewN n) (fun i _ => g.length - (intOf i).toNat)
      case atStart => exact ⟨0, by omega, rfl, _, (by first | rfl | exact drew_two _ _ _)⟩
      case round =>
        obtain ⟨t, ht, rfl, n1, rfl⟩ := hrel
        by_cases htl : t < g.length
        · as_aux_lemma =>
          have ht64 : (t : Int) < (g.length : Int) := by omega
          have ht0 : (0 : Int) ≤ (t : Int) := by omega
          obtain ⟨b1, o1, rfl, d1⟩ := dig_cell TA.out htl
          obtain ⟨b2, o2, rfl, d2⟩ := dig_cell TB.out htl
          have m1 : ∀ n, (w.drewN n).cell? ⟨b1, o1 + t, none⟩ = some (.string (dgT (atP g t))) := fun n => d1
          have m2 : ∀ n, (w.drewN n).cell? ⟨b2, o2 + t, none⟩ = some (.string (dgT (atP g t))) := fun n => d2
          clear d1 d2
          generalize dgT (atP g t) = D at *
          go_wp2_with fail
          go_quiet (fail)
          go_wp2
          exact ⟨⟨t + 1, by omega, by go_num, _, (by first | rfl | exact drew_two _ _ _)⟩, by simp [intOf]; omega⟩
        · as_aux_lemma =>
          obtain rfl : t = g.length := by omega
          go_wp2_with fail
          go_loopw [7] (fun i wr => ∃ t : Nat, t ≤ g.length ∧ i = .int .i64 t ∧ ∃ n, wr = w.drewN n) (fun i _ => g.length - (intOf i).toNat)
          case atStart => exact ⟨0, by omega, rfl, _, (by first | rfl | exact drew_two _ _ _)⟩
          case round =>
            obtain ⟨t, ht2, rfl, n2, rfl⟩ := hrel
            by_cases htl : t < g.length
            · as_aux_lemma =>
              have ht64 : (t : Int) < (g.length : Int) := by omega
              have ht0 : (0 : Int) ≤ (t : Int) := by omega
              obtain ⟨b1, o1, rfl, d0, d1, d2⟩ := place_cell QA.out htl
              obtain ⟨b2, o2, rfl, f0, f1, f2⟩ := place_cell QB.out htl
              have m0 : ∀ n, (w.drewN n).cell? ⟨b1, o1 + t * 3, none⟩ = some (.string (dgP g)) := fun n => d0
              have m1 : ∀ n, (w.drewN n).cell? ⟨b1, o1 + t * 3 + 1, none⟩ = some (.int .i64 (offP g t)) := fun n => d1
              have m2 : ∀ n, (w.drewN n).cell? ⟨b1, o1 + t * 3 + 2, none⟩ = some (.int .i64 ((atP g t).size : Int)) := fun n => d2
              have m3 : ∀ n, (w.drewN n).cell? ⟨b2, o2 + t * 3, none⟩ = some (.string (dgP g)) := fun n => f0
              have m4 : ∀ n, (w.drewN n).cell? ⟨b2, o2 + t * 3 + 1, none⟩ = some (.int .i64 (offP g t)) := fun n => f1
              have m5 : ∀ n, (w.drewN n).cell? ⟨b2, o2 + t * 3 + 2, none⟩ = some (.int .i64 ((atP g t).size : Int)) := fun n => f2
              clear d0 d1 d2 f0 f1 f2
              generalize dgP g = D at *
              generalize offP g t = x at *
              generalize ((atP g t).size : Int) = y at *
              go_wp2_with fail
              go_quiet (fail)
              go_wp2
              exact ⟨⟨t + 1, by omega, by go_num, _, (by first | rfl | exact drew_two _ _ _)⟩, by simp [intOf]; omega⟩
            · as_aux_lemma =>
              obtain rfl : t = g.length := by omega
              go_wp2
              exact ⟨⟨k + 1, by omega, by go_num, _, rfl⟩, by simp [intOf]; omega⟩
    · obtain rfl : k = gs.length := by omega
      go_wp2
      go_ret
      exact ⟨rfl, _, rfl⟩
end Go.Proofs.Yteandjophamipaa
