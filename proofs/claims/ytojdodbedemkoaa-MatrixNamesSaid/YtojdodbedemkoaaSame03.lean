/- The walks of strongboxref03.Same and of the law's own spoil. -/
import Derived.Test.YtojdodbedemkoaaRef03
namespace Go.Proofs.Ytojdodbedemkoaa
open Go.RowKit

theorem conv8 {w : World} {v : Value} {r : List UInt8} (h : RowAt w.heap v r) (n : Nat) : (convert 33 9 v).run Try.prog (w.drewN n) = .ok (.string (strB r)) (w.drewN n) :=
  conv_row Try.underlying33 Try.underlying5 Try.underlying9 (w := w.drewN n) h
theorem strB_eq (r s : List UInt8) : ((strB r).toList == (strB s).toList) = decide (r = s) := by
  rw [strB_toList, strB_toList]
  by_cases h : r = s
  · subst h; simp
  · rw [decide_eq_false h]; exact beq_eq_false_iff_ne.2 h

set_option maxRecDepth 100000 in
set_option maxHeartbeats 1000000 in
theorem same03_any (va vb : Value) (ma mb : List (List UInt8)) (w : World) (ha : MatAt w.heap va ma) (hb : MatAt w.heap vb mb) :
    Calls Try.prog 19 #[va, vb] w fun e w' => e = .returned (.bool (decide (ma = mb))) ∧ ∃ n, w' = w.drewN n := by
  obtain ⟨a, ca, rfl, hla, hea⟩ := ha
  obtain ⟨b, cb, rfl, hlb, heb⟩ := hb
  by_cases hl : ma.length = mb.length
  · have HEA := Lib.hid hea
    have HEB := Lib.hid heb
    have HL := Lib.hid hl
    have hl1 : (((ma.length : Nat) : Int) == ((mb.length : Nat) : Int)) = true := by rw [beq_iff_eq, hl]
    have hl2 : (((ma.length : Nat) : Int) != ((mb.length : Nat) : Int)) = false := by rw [bne_eq_false_iff_eq, hl]
    clear hea heb hl
    go_enter Try.func19, Try.ntmps19
    go_wp2
    clear hl1 hl2
    go_loopw [5] (fun i wr => ∃ k : Nat, k ≤ ma.length ∧ i = .int .i64 k ∧ Hid (∀ j (h : j < ma.length) (h' : j < mb.length), j < k → ma[j] = mb[j]) ∧ ∃ n, wr = w.drewN n) (fun i _ => ma.length - (intOf i).toNat)
    case atStart => exact ⟨0, by omega, rfl, fun j _ _ h => by omega, 0, rfl⟩
    case round =>
      obtain ⟨k, hk, rfl, hno, n0, rfl⟩ := hrel
      by_cases hlt : k < ma.length
      · have hlt' : k < mb.length := by have := HL.out; omega
        obtain ⟨ba, oa, ua, ea, c1, r1⟩ := HEA.out k hlt
        obtain ⟨bb, ob, ub, eb, c2, r2⟩ := HEB.out k hlt'
        subst ea
        subst eb
        rw [← cell_of] at c1 c2
        have k1 := conv8 r1
        have k2 := conv8 r2
        have hse := strB_eq ma[k] mb[k]
        by_cases he : ma[k] = mb[k]
        · rw [decide_eq_true he] at hse
          have HE := Lib.hid he
          clear he r1 r2
          go_wp2
          go_quiet (fail)
          go_wp2
          refine ⟨⟨k + 1, by omega, rfl, fun j h h' hj => ?_, _, rfl⟩, by simp [intOf]; omega⟩
          by_cases e : j = k
          · subst e; exact HE.out
          · exact hno.out j h h' (by omega)
        · rw [decide_eq_false he] at hse
          have HE : Hid (decide (ma = mb) = false) := decide_eq_false fun h => he (by subst h; rfl)
          clear he r1 r2
          go_wp2
          go_quiet (fail)
          go_wp2
          go_ret
          exact ⟨by rw [HE.out]; rfl, n0 + nq, by rw [World.drewN_drewN]⟩
      · obtain rfl : k = ma.length := by omega
        have HE : Hid (decide (ma = mb) = true) := decide_eq_true (List.ext_getElem HL.out fun j h1 h2 => hno.out j h1 h2 h1)
        go_wp2
        go_ret
        exact ⟨by rw [HE.out]; rfl, _, rfl⟩
  · have HE : Hid (decide (ma = mb) = false) := decide_eq_false fun h => hl (by rw [h])
    have hl2 : (((ma.length : Nat) : Int) != ((mb.length : Nat) : Int)) = true := by rw [bne_iff_ne]; omega
    clear hl
    go_enter Try.func19, Try.ntmps19
    go_wp2
    go_ret
    exact ⟨by rw [HE.out]; rfl, 0, rfl⟩

/-- A slice of rows that may be written over: blocks of S. -/
def RowW (S : Nat → Prop) (h : Array Obj) (v : Value) : Prop :=
  ∃ a len cap, v = .slice a len cap ∧ len ≤ 9223372036854775807 ∧ ∀ j, j < len → ∃ b off, a = some ⟨b, off, none⟩ ∧ S b ∧ typH h b = some 5 ∧ frozH h b (off + j) = false ∧ ∃ x : UInt8, cellH h b (off + j) = some (.int .u8 (x.toNat : Int))
def MatW (S : Nat → Prop) (h : Array Obj) (v : Value) : Prop :=
  ∃ a len cap, v = .slice a len cap ∧ len ≤ 9223372036854775807 ∧ ∀ j, j < len → ∃ b off u, a = some ⟨b, off, none⟩ ∧ typH h b = some 33 ∧ cellH h b (off + j) = some u ∧ RowW S h u
theorem rowW {S : Nat → Prop} {h : Array Obj} {v : Value} {r : List UInt8} (s : RowIn S h v r) : RowW S h v := by
  obtain ⟨a, cap, e, hl, hel⟩ := s
  exact ⟨a, _, cap, e, hl, fun j hj => let ⟨b, off, u, e1, ⟨e2, e3⟩, e4, e5, e6⟩ := hel j hj; ⟨b, off, e1, e2, e3, e4, r[j], e5.trans (congrArg some e6)⟩⟩
theorem matW {S : Nat → Prop} {h : Array Obj} {v : Value} {m : List (List UInt8)} (s : MatIn S h v m) : MatW S h v := by
  obtain ⟨a, cap, e, hl, hel⟩ := s
  exact ⟨a, _, cap, e, hl, fun j hj => let ⟨b, off, u, e1, ⟨_, e3⟩, _, e5, e6⟩ := hel j hj; ⟨b, off, u, e1, e3, e5, rowW e6⟩⟩
theorem RowW.set {S : Nat → Prop} {w : World} {v : Value} (s : RowW S w.heap v) {b i : Nat} {x y : UInt8} (hc : cellH w.heap b i = some (.int .u8 (y.toNat : Int))) : RowW S (w.setCell ⟨b, i, none⟩ (.int .u8 (x.toNat : Int))).heap v := by
  obtain ⟨a, len, cap, e, hl, hel⟩ := s
  refine ⟨a, len, cap, e, hl, fun j hj => ?_⟩
  obtain ⟨b', off, e1, e2, e3, e4, z, e5⟩ := hel j hj
  refine ⟨b', off, e1, e2, by rw [typH_set]; exact e3, by rw [frozH_set]; exact e4, ?_⟩
  rw [cellH_set _ _ _ _ _ _ _ hc]
  split
  · exact ⟨x, rfl⟩
  · exact ⟨z, e5⟩
theorem MatW.set {S : Nat → Prop} {w : World} {v : Value} (s : MatW S w.heap v) {b i : Nat} {x y : UInt8} (hc : cellH w.heap b i = some (.int .u8 (y.toNat : Int))) (ht : typH w.heap b = some 5) : MatW S (w.setCell ⟨b, i, none⟩ (.int .u8 (x.toNat : Int))).heap v := by
  obtain ⟨a, len, cap, e, hl, hel⟩ := s
  refine ⟨a, len, cap, e, hl, fun j hj => ?_⟩
  obtain ⟨b', off, u, e1, e2, e3, e4⟩ := hel j hj
  refine ⟨b', off, u, e1, by rw [typH_set]; exact e2, ?_, e4.set hc⟩
  rw [cellH_set _ _ _ _ _ _ _ hc, if_neg (fun h => by rw [h.1] at ht; rw [ht] at e2; cases e2)]
  exact e3

set_option maxRecDepth 100000 in
set_option maxHeartbeats 1000000 in
theorem spoil_any (S : Nat → Prop) (v : Value) (w : World) (hv : MatW S w.heap v) :
    Calls Try.prog 20 #[v] w fun e w' => e = .returned (.tuple #[]) ∧ Chg S w w' := by
  have hv0 := hv
  obtain ⟨a, len, cap, rfl, hl, hel⟩ := hv0
  clear hel
  have HV := Lib.hid hv
  clear hv
  go_enter Try.func20, Try.ntmps20
  go_wp2
  go_loopw [2] (fun i wr => ∃ k : Nat, k ≤ len ∧ i = .int .i64 k ∧ Hid (MatW S wr.heap (.slice a len cap)) ∧ Hid (Chg S w wr)) (fun i _ => len - (intOf i).toNat)
  case atStart => exact ⟨0, by omega, rfl, HV, Chg.refl _ _⟩
  case round =>
    obtain ⟨k, hk, rfl, hm, hc⟩ := hrel
    obtain ⟨wo, rfl⟩ : ∃ wo : World, wo = wr := ⟨_, rfl⟩
    by_cases hlt : k < len
    · obtain ⟨a1, len1, cap1, e1, _, hel1⟩ := hm.out
      injection e1 with e2 e3 e4
      subst e2 e3 e4
      obtain ⟨b, off, u, rfl, t1, c1, r1⟩ := hel1 k hlt
      obtain ⟨a2, len2, cap2, rfl, hl2, _⟩ := r1
      clear hel1
      go_wp2_with fail
      go_loopw [3] (fun j wi => ∃ j' : Nat, j' ≤ len2 ∧ j = .int .i64 j' ∧ Hid (MatW S wi.heap (.slice (some ⟨b, off, none⟩) len cap)) ∧ Hid (Chg S w wi) ∧ Hid (cellH wi.heap b (off + k) = some (.slice a2 len2 cap2))) (fun j _ => len2 - (intOf j).toNat)
      case atStart => exact ⟨0, by omega, rfl, hm, hc, c1⟩
      case round =>
        obtain ⟨j, hj, rfl, hm2, hc2, hcc⟩ := hrel
        have c2 : wr.cell? ⟨b, off + k, none⟩ = some (.slice a2 len2 cap2) := by rw [cell_of]; exact hcc.out
        by_cases hjl : j < len2
        · obtain ⟨a1, len1, cap1, e1, _, hel1⟩ := hm2.out
          injection e1 with e2 e3 e4
          subst e2 e3 e4
          obtain ⟨b', off', u, e5, t1', c1', r1⟩ := hel1 k hlt
          injection e5 with e6
          injection e6 with e7 e8 _
          subst e7 e8
          rw [hcc.out] at c1'
          injection c1' with c1'
          subst c1'
          obtain ⟨a1, len1, cap1, e1, _, hel2⟩ := r1
          injection e1 with e2 e3 e4
          subst e2 e3 e4
          obtain ⟨b3, off3, rfl, hS, ht3, hf3, x, hx3⟩ := hel2 j hjl
          obtain ⟨y, hval, hval2⟩ : ∃ y : UInt8, IntKind.u8.wrap ((x.toNat : Int) + 77) = (y.toNat : Int) ∧ ((x.toNat : Int) + 77) % 256 = (y.toNat : Int) :=
            ⟨x + 77, by rw [IntKind.wrap_u8, UInt8.toNat_add]; simp, by rw [UInt8.toNat_add]; simp⟩
          have hset := hm2.out.set (x := y) hx3 ht3
          have hset2 : cellH (wr.setCell ⟨b3, off3 + j, none⟩ (.int .u8 (y.toNat : Int))).heap b (off + k) = some (.slice (some ⟨b3, off3, none⟩) len2 cap2) := by
            rw [cellH_set _ _ _ _ _ _ _ hx3, if_neg (fun h => by rw [h.1] at ht3; rw [ht3] at t1'; cases t1')]; exact hcc.out
          have f3 := hf3
          have x3 := hx3
          rw [← froz_of] at f3
          rw [← cell_of] at x3
          have HS1 := Lib.hid hset
          have HS2 := Lib.hid hset2
          clear hel1 hel2 hset hset2 ht3 hf3 hx3 t1'
          go_wp2
          go_region
          all_goals
            go_wp2
            exact ⟨⟨j + 1, by omega, rfl, HS1.out, hc2.out.setCell (fun _ => hS) _, HS2.out⟩, by simp [intOf]; omega⟩
        · obtain rfl : j = len2 := by omega
          go_wp2
          exact ⟨⟨k + 1, by omega, rfl, hm2, hc2⟩, by simp [intOf]; omega⟩
    · obtain rfl : k = len := by omega
      go_wp2
      go_end0
      exact ⟨rfl, hc.out⟩
end Go.Proofs.Ytojdodbedemkoaa
