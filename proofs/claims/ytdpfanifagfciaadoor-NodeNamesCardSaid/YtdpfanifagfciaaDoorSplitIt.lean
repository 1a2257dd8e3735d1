/- The iterator of strings.SplitSeq at a cut of one slash: its contract. -/
import Derived.RangeFuncNested
import Derived.RangeFuncBound
import Derived.RangeFuncCalls
import Derived.RangeFuncLeaves
import Derived.RangeFuncBox
import Derived.Shelf.Abstract
import Derived.Shelf.RegionOpen
import Derived.WalkKit
import Derived.OwnWalkIn
import Derived.TacticsInMore
import Derived.LoopNIn
import Derived.LoopIn
import Derived.Test.YtdpfanifagfciaaDoorProg
import Derived.Test.YtdpfanifagfciaaDoorSeqBox
import Derived.Test.YtdpfanifagfciaaDoorPathM
namespace Go.Proofs.YtdpfanifagfciaaDoor
open Go.RowKit Go.Shelf
attribute [local go_sem] Oper.semAt_some
def pB (r : List UInt8) : ByteArray := ⟨⟨r⟩⟩
/-- How long the text in a box is. -/
def boxLen (W : World) (b : Nat) : Nat := match W.cell? ⟨b, 0, none⟩ with
  | some (.string t) => t.size
  | _ => 0
theorem boxLen_eq {W : World} {b : Nat} {r : List UInt8} (h : W.cell? ⟨b, 0, none⟩ = some (.string (pB r))) : boxLen W b = r.length := by unfold boxLen; rw [h]; rfl
set_option maxRecDepth 100000 in
set_option maxHeartbeats 2000000 in
theorem split1_in (n : Nat) (hn : 2 ≤ n) (hIdx : ∀ (t : ByteArray) (W : World), Calls Tryd.prog 79 #[.string t, .string ⟨#[47]⟩] W fun e W' => e = .returned (.int .i64 (Lib.indexByte t.data.toList 47)) ∧ W' = W)
    (l bs n₀ : Nat) (hb : bs + 2 < n₀) (s : List UInt8) (hs : s.length ≤ 4611686018427387904) (J Jx : List ByteArray → World → Prop) (hJ : BoxFrom bs J)
    (hY : ∀ pre x W, J pre W → pre.length < (cutP s).length → YieldAt Fence.wide (n - 1) Tryd.prog l #[.string x] W fun e W' => (e = .returned (.bool true) ∧ J (pre ++ [x]) W' ∧ Below n₀ W W') ∨ (e = .returned (.bool false) ∧ Jx (pre ++ [x]) W'))
    (W : World) (c1 : W.cell? ⟨bs, 0, none⟩ = some (.string (pB s))) (c2 : W.cell? ⟨bs + 1, 0, none⟩ = some (.string ⟨#[47]⟩)) (c3 : W.cell? ⟨bs + 2, 0, none⟩ = some (.int .i64 0)) (f1 : W.frozen? ⟨bs, 0, none⟩ = false) (h0 : J [] W) :
    CallsIn Fence.wide n Tryd.prog 81 #[.func (.yield l) #[] #[], .pointer (some ⟨bs + 1, 0, none⟩), .pointer (some ⟨bs, 0, none⟩), .pointer (some ⟨bs + 2, 0, none⟩)] W fun e W' => (∃ v, e = .returned v) ∧ ((∃ xs, xs = (cutP s).map pB ∧ J xs W') ∨ ∃ pre, pre <+: (cutP s).map pB ∧ Jx pre W') := by
  refine callsIn_of_wp Tryd.func81 rfl trivial ?_ rfl
  simp only [Tryd.ntmps81, List.size_toArray, List.length_cons, List.length_nil, Nat.reduceAdd, Nat.reduceSub, Array.replicate_succ, Array.replicate_zero, List.push_toArray, List.append_toArray, List.nil_append, List.cons_append]
  gi_wp2
  gi_loopw [7, 8] (fun _ _ wr => ∃ (pre : List ByteArray) (r : List UInt8), wr.cell? ⟨bs, 0, none⟩ = some (.string (pB r)) ∧ wr.cell? ⟨bs + 1, 0, none⟩ = some (.string ⟨#[47]⟩) ∧ wr.cell? ⟨bs + 2, 0, none⟩ = some (.int .i64 0) ∧ wr.frozen? ⟨bs, 0, none⟩ = false ∧ (cutP s).map pB = pre ++ (cutP r).map pB ∧ r.length ≤ s.length ∧ J pre wr) (fun _ _ wr => boxLen wr bs)
  case atStart => exact ⟨[], s, c1, c2, c3, f1, rfl, Nat.le_refl _, h0⟩
  case round =>
    obtain ⟨pre, r, d1, d2, d3, g1, hx, hl, hj⟩ := hrel
    have hpl : pre.length < (cutP s).length := by
      have h1 := congrArg List.length hx
      have h2 := List.length_pos_iff.2 (cutP_ne r)
      simp only [List.length_map, List.length_append] at h1
      omega
    have hsz : (pB r).size = r.length := rfl
    rcases idx_cases r with hi | ⟨i, hi⟩
    · have hc := cutP_none hi
      obtain ⟨fn, tmps, assign, body, hy, hR⟩ := hY pre (pB r) wr hj hpl
      have hi' : Lib.indexByte (pB r).data.toList 47 = -1 := hi
      gi_wp2
      refine ⟨trivial, fun _ => by omega, (callsIn_wide.2 (hIdx _ _)).mono ?_⟩
      rintro e w' ⟨rfl, rfl⟩
      rw [hi']
      gi_wp2
      refine ⟨fun _ => by omega, hR.mono ?_⟩
      rintro e W3 (⟨rfl, hJ3, hk3⟩ | ⟨rfl, hJx3⟩)
      · gi_wp2
        go_end0
        exact ⟨⟨_, rfl⟩, .inl ⟨_, by rw [hx, hc]; rfl, hJ3⟩⟩
      · gi_wp2
        go_end0
        exact ⟨⟨_, rfl⟩, .inr ⟨_, by rw [hx, hc]; exact List.prefix_refl _, hJx3⟩⟩
    · obtain ⟨hil, hc⟩ := cutP_some hi
      have hi' : Lib.indexByte (pB r).data.toList 47 = (i : Int) := hi
      have i0 : (0 : Int) ≤ (i : Int) := by omega
      have i1 : ¬ (i : Int) < 0 := by omega
      obtain ⟨fn, tmps, assign, body, hy, hR⟩ := hY pre ((pB r).extract 0 i) wr hj hpl
      gi_wp2
      refine ⟨trivial, fun _ => by omega, (callsIn_wide.2 (hIdx _ _)).mono ?_⟩
      rintro e w' ⟨rfl, rfl⟩
      rw [hi']
      gi_wp2
      have hex : (pB r).extract 0 i = pB (r.take i) := by
        apply ByteArray.ext
        apply Array.ext'
        simp [pB, ByteArray.data_extract]
      have hex2 : (pB r).extract (i + 1) r.length = pB (r.drop (i + 1)) := by
        apply ByteArray.ext
        apply Array.ext'
        simp [pB, ByteArray.data_extract]
        exact List.take_of_length_le (by simp)
      refine ⟨fun _ => by omega, hR.mono ?_⟩
      rintro e W3 (⟨rfl, hJ3, hk3⟩ | ⟨rfl, hJx3⟩)
      · have e1 : W3.cell? ⟨bs, 0, none⟩ = some (.string (pB r)) := (hk3.cell (p := ⟨bs, 0, none⟩) (by show bs < n₀; omega)).trans d1
        have e2 : W3.cell? ⟨bs + 1, 0, none⟩ = some (.string ⟨#[47]⟩) := (hk3.cell (p := ⟨bs + 1, 0, none⟩) (by show bs + 1 < n₀; omega)).trans d2
        have e3 : W3.cell? ⟨bs + 2, 0, none⟩ = some (.int .i64 0) := (hk3.cell (p := ⟨bs + 2, 0, none⟩) (by show bs + 2 < n₀; omega)).trans d3
        have g3 : W3.frozen? ⟨bs, 0, none⟩ = false := (hk3.frozen (p := ⟨bs, 0, none⟩) (by show bs < n₀; omega)).trans g1
        gi_wp2
        go_roundw
        case rel =>
          refine ⟨pre ++ [(pB r).extract 0 i], r.drop (i + 1), World.cell?_setCell_same' _ _ _ (by rw [e1]; rfl), ?_, ?_, ?_, ?_, ?_, ?_⟩
          · exact (World.cell?_setCell_other _ _ _ _ (fun e => by injection e with e; omega)).trans e2
          · exact (World.cell?_setCell_other _ _ _ _ (fun e => by injection e with e; omega)).trans e3
          · rw [World.frozen?_setCell]; exact g3
          · rw [hx, hc, hex]; simp
          · simp; omega
          · exact hJ _ W3 _ (some bs) hJ3 (grownBy_setCell' W3 bs _) (fun r e => by cases e; rfl)
        case measure =>
          rw [boxLen_eq (World.cell?_setCell_same' _ _ _ (by rw [e1]; rfl)), boxLen_eq d1]
          simp; omega
      · gi_wp2
        refine bodyPost_ret (results_none rfl _ _ _) rfl ?_
        exact ⟨⟨_, rfl⟩, .inr ⟨_, by rw [hx, hc, hex]; exact ⟨(cutP (r.drop (i + 1))).map pB, by simp⟩, hJx3⟩⟩
end Go.Proofs.YtdpfanifagfciaaDoor
