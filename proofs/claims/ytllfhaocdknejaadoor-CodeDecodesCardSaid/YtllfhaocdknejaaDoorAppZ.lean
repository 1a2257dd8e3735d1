/- append of as many zeros onto a slice of the call's own. No program in sight. -/
import Derived.Test.YtllfhaocdknejaaDoorApp
import Derived.Lib.AppendZerosOnto
namespace Go.Proofs.YtllfhaocdknejaaDoor
open Go.RowKit
theorem zeroCells_one (z : Value) (h : z.cells = #[z]) (k : Nat) : Builtin.zeroCells z.cells k = (List.replicate k z).toArray := by
  apply Array.ext_getElem?
  intro i
  unfold Builtin.zeroCells
  rw [h]
  by_cases hi : i < k
  · simp [hi, Nat.mod_one]
  · simp [hi]
section
variable {P : Program} {t e tn : TypeId} {z : Value} {bytes : Nat} {kn : IntKind} (E : ElemTy P t e z bytes) (hz1 : z.cells = #[z]) (hone : z.oneCell' = true) (htn : P.underlying tn = some (.int kn)) {w : World}
include E hz1 hone htn
theorem run_appz (ty : TypeId) (base : Nat) (v : Value) (xs : List Value) (hown : w.ownsRow base e 1 v xs.length xs) (hn : 0 < xs.length) (k : Nat)
    (hlen : (xs.length + k) * bytes ≤ 140737488355328) (hbase : base ≤ w.heap.size) :
    ∃ v' w', (Builtin.append_ #[t, tn] ty #[v, .int .i64 (k : Int)]).run P w = .ok v' w' ∧ w'.ownsRow base e 1 v' (xs.length + k) (xs ++ List.replicate k z) ∧ Chg (fun b => v.ownBlock = some b) w w' := by
  obtain ⟨i, h2, h3, h4, h5⟩ := info_parts E.hi
  have hb := E.hb
  have hle : xs.length + k ≤ (xs.length + k) * bytes := Nat.le_mul_of_pos_right _ hb
  have hkb : k * bytes ≤ (xs.length + k) * bytes := Nat.mul_le_mul_right _ (by omega)
  rcases hown.2 with ⟨rfl, h0⟩ | ⟨g, cap, cur, rfl, hbg, hg, hnc, hcm, hcs, htake⟩
  · omega
  · rw [Nat.mul_one] at hcs htake
    have hw : IntKind.i64.wrap (k : Int) = k := by rw [IntKind.wrap_i64]; omega
    have hneg : ¬ ((k : Int) < 0) := by omega
    have h48i : ¬ (281474976710656 < (k : Int) * (i.bytes : Int)) := by
      rw [← Int.natCast_mul, h5]
      have : k * bytes ≤ (xs.length + k) * bytes := Nat.mul_le_mul_right _ (by omega)
      omega
    by_cases hroom : xs.length + k ≤ cap
    · by_cases hk : k = 0
      · subst hk
        refine ⟨_, w, ?_, by simpa using hown, Chg.refl _ _⟩
        have hw0 : IntKind.i64.wrap 0 = 0 := by simpa using hw
        have hns : ¬ cap < xs.length := by omega
        simp [Builtin.append_, run_underlying E.ht, run_underlying htn, sizeOf, typeInfo, h2, asInt, asIntOf, hw0, hnc, Question.forced, storeCells]
      · have hst := run_storeCells_at P g xs.length e (List.replicate k z) 0 cur w hg (by simp; omega) (fun u hu => by rw [(List.mem_replicate.1 hu).2]; exact hone)
        simp only [Nat.add_zero] at hst
        refine ⟨_, w.setRow g (cur.toList.take xs.length ++ List.replicate k z ++ cur.toList.drop (xs.length + (List.replicate k z).length)).toArray, ?_, ⟨?_, .inr ⟨g, cap, (cur.toList.take xs.length ++ List.replicate k z ++ cur.toList.drop (xs.length + (List.replicate k z).length)).toArray, rfl, hbg, setRow_heap w g cur _ e _ hg, hroom, hcm, ?_, ?_⟩⟩, ?_⟩
        · simp [Builtin.append_, run_underlying E.ht, run_underlying htn, sizeOf, typeInfo, zeroValue, h2, h3, h4, asInt, asIntOf, hw, hneg, h48i, hroom, hk, Question.forced, zeroCells_one z hz1, Addr.add_lit, hst]
        · simp
        · simp; omega
        · rw [Nat.mul_one]
          simp only [List.append_assoc]
          rw [← List.append_assoc, htake]
          have : (xs ++ List.replicate k z).length = xs.length + k := by simp
          rw [← this]; exact List.take_left
        · refine ⟨rfl, rfl, rfl, by simp [World.setRow], fun b hb hne => setRow_other w g b _ (fun e => hne (by simp [Value.ownBlock, e]))⟩
    · have holds : ∀ j u, xs[j]? = some u → w.cell? ((⟨g, 0, none⟩ : Addr).add j) = some u := hown.cells (g := g) rfl
      have hold : (Builtin.firstCells i.size xs.length (.slice (some ⟨g, 0, none⟩) xs.length cap)).run P w.drew = .ok xs.toArray w.drew := by
        rw [h4]
        exact run_firstCells_some (P := P) w.drew 1 xs.length ⟨g, 0, none⟩ xs.length cap xs (by simp) (fun j u hj => holds j u hj)
      have hfit : Builtin.nextslicecap (xs.length + k) cap * i.bytes ≤ 281474976710656 := by rw [h5]; exact growslice_fits (by omega) hlen
      have hr := Lib.run_append_grow_zeros (P := P) w t tn ty e i z .i64 kn E.ht htn h2 h3 (some ⟨g, 0, none⟩) xs.length cap xs hold k (by omega) (by omega) (by omega) (by omega) (by rw [h5]; exact Nat.le_trans hkb (Nat.le_trans hlen (by decide))) hfit
      refine ⟨_, _, hr, ⟨by simp, .inr ⟨w.heap.size, _, _, rfl, hbase, heap_alloc_new w.drew _, grownCap_ge w _ _ e, grownCap_le_maxLen w _ _ e (by unfold maxLen; omega), ?_, ?_⟩⟩, ?_⟩
      · rw [zeroCells_one z hz1, zeroCells_one z hz1]
        have := grownCap_ge w (xs.length + k) cap e
        simp; omega
      · rw [zeroCells_one z hz1, zeroCells_one z hz1, Nat.mul_one]
        simp only [Array.toList_append, List.append_assoc]
        rw [← List.append_assoc]
        have : (xs ++ List.replicate k z).length = xs.length + k := by simp
        rw [← this]; exact List.take_left
      · exact (Chg.refl (fun b => Value.ownBlock (.slice (some ⟨g, 0, none⟩) xs.length cap) = some b) w.drew).alloc _
end
end Go.Proofs.YtllfhaocdknejaaDoor
