/- The walk of the reference's change. -/
import Derived.Test.YteandjophamipaaRefFill
import Derived.Test.YteandjophamipaaStage
namespace Go.Proofs.Yteandjophamipaa
open Go.RowKit
theorem seqIn_lit1 {α : Type} {R : Value → α → Prop} (w : World) (u : Value) (x : α) (e : TypeId) {N : Nat} (hN : N ≤ w.heap.size) (hr : R u x) : SeqIn (N ≤ ·) e R (w.alloc (.cells #[u] e)).heap (.slice (some ⟨w.heap.size, 0, none⟩) 1 1) [x] := by
  have hg : (w.alloc (.cells #[u] e)).heap[w.heap.size]? = some (.cells #[u] e (0, 0)) := heap_alloc_new w _
  refine ⟨_, 1, rfl, by simp, fun i hi => ⟨w.heap.size, 0, u, rfl, ⟨hN, typH_of hg⟩, ?_, ?_, ?_⟩⟩
  · unfold frozH; simp only [hg]; simp
  · obtain rfl : i = 0 := by simpa using hi
    unfold cellH; simp only [hg]; rfl
  · obtain rfl : i = 0 := by simpa using hi
    exact hr
theorem own_litG {α : Type} {R : Value → α → Prop} (w : World) (cs : Array Value) (e : TypeId) (l : List α) (N : Nat) (hN : N ≤ w.heap.size) (hl : l.length = cs.size ∧ cs.size ≤ 1000000) (hr : ∀ i (hi : i < l.length), ∃ u, cs[i]? = some u ∧ R u l[i]) : OwnG N e R (w.alloc (.cells cs e)).heap (.slice (some ⟨w.heap.size, 0, none⟩) cs.size cs.size) l := by
  have hg : (w.alloc (.cells cs e)).heap[w.heap.size]? = some (.cells cs e (0, 0)) := heap_alloc_new w _
  refine .inr ⟨w.heap.size, cs.size, by rw [hl.1], hN, typH_of hg, by rw [hl.1]; exact Nat.le_refl _, by have := hl.2; omega, fun j hj => ⟨?_, ?_⟩, fun i hi => ?_⟩
  · unfold cellH; simp only [hg]; rw [Array.getElem?_eq_getElem hj]; rfl
  · unfold frozH; simp only [hg]; simp
  · obtain ⟨u, h1, h2⟩ := hr i hi
    exact ⟨u, by unfold cellH; simp only [hg]; exact h1, h2⟩
theorem row_u32 {w : World} {b off n c : Nat} {l : List Nat} (h : SeqAt IsU32 w.heap (.slice (some ⟨b, off, none⟩) n c) l) {i : Nat} (hi : i < l.length) : w.cell? ⟨b, off + i, none⟩ = some (.int .u32 (l.getD i 0 : Int)) := by
  obtain ⟨u, h1, h2⟩ := seq_at h hi
  rw [h1, h2, List.getD_eq_getElem?_getD, List.getElem?_eq_getElem hi]; rfl
theorem eight_rows (s t : Nat → Nat) : ∀ i, i < 8 → (#[.int .u32 (((s 0 : Int) + (t 0 : Int)) % 4294967296), .int .u32 (((s 1 : Int) + (t 1 : Int)) % 4294967296), .int .u32 (((s 2 : Int) + (t 2 : Int)) % 4294967296), .int .u32 (((s 3 : Int) + (t 3 : Int)) % 4294967296), .int .u32 (((s 4 : Int) + (t 4 : Int)) % 4294967296), .int .u32 (((s 5 : Int) + (t 5 : Int)) % 4294967296), .int .u32 (((s 6 : Int) + (t 6 : Int)) % 4294967296), .int .u32 (((s 7 : Int) + (t 7 : Int)) % 4294967296)] : Array Value)[i]? = some (.int .u32 (((s i : Int) + (t i : Int)) % 4294967296))
  | 0, _ => rfl
  | 1, _ => rfl
  | 2, _ => rfl
  | 3, _ => rfl
  | 4, _ => rfl
  | 5, _ => rfl
  | 6, _ => rfl
  | 7, _ => rfl
  | n + 8, h => by omega
def chg6 (k bb ob cb : Nat) (pv : Option Addr) (qv N : Nat) (B : List UInt8) (x0 x1 x2 x3 : Nat) : Nat → Value → World → Prop
  | 34, v, w => SeqIn (N ≤ ·) 81 IsU32 w.heap v [SH.nextW B (SH.sched B k) k]
  | 35, _, _ => True
  | 36, _, _ => True
  | i, v, _ => v = ([.slice pv k qv, .slice (some ⟨bb, ob, none⟩) 64 cb, .int .i64 (k : Int), .int .i64 (4 * (k : Int)), .pointer (some ⟨bb, ob + 4 * k, none⟩), .int .u8 (x0 : Int), .int .u32 ((x0 : Int)), .int .u32 ((x0 : Int) * 16777216), .slice (some ⟨bb, ob, none⟩) 64 cb, .int .i64 (k : Int), .int .i64 (4 * (k : Int)), .int .i64 (4 * (k : Int) + 1), .pointer (some ⟨bb, ob + (4 * k + 1), none⟩), .int .u8 (x1 : Int), .int .u32 ((x1 : Int)), .int .u32 ((x1 : Int) * 65536), .int .u32 ((x0 : Int) * 16777216 + (x1 : Int) * 65536), .slice (some ⟨bb, ob, none⟩) 64 cb, .int .i64 (k : Int), .int .i64 (4 * (k : Int)), .int .i64 (4 * (k : Int) + 2), .pointer (some ⟨bb, ob + (4 * k + 2), none⟩), .int .u8 (x2 : Int), .int .u32 ((x2 : Int)), .int .u32 ((x2 : Int) * 256), .int .u32 ((x0 : Int) * 16777216 + (x1 : Int) * 65536 + (x2 : Int) * 256), .slice (some ⟨bb, ob, none⟩) 64 cb, .int .i64 (k : Int), .int .i64 (4 * (k : Int)), .int .i64 (4 * (k : Int) + 3), .pointer (some ⟨bb, ob + (4 * k + 3), none⟩), .int .u8 (x3 : Int), .int .u32 ((x3 : Int)), .int .u32 ((x0 : Int) * 16777216 + (x1 : Int) * 65536 + (x2 : Int) * 256 + (x3 : Int)), undef, undef, undef] : List Value).getD i undef
theorem chg6_chg {k bb ob cb : Nat} {pv : Option Addr} {qv N : Nat} {B : List UInt8} {x0 x1 x2 x3 : Nat} (i : Nat) (v : Value) (w w' : World) (c : Chg (fun b => b < N) w w') (h : chg6 k bb ob cb pv qv N B x0 x1 x2 x3 i v w) : chg6 k bb ob cb pv qv N B x0 x1 x2 x3 i v w' := by
  match i, h with
  | 0, h => exact h
  | 1, h => exact h
  | 2, h => exact h
  | 3, h => exact h
  | 4, h => exact h
  | 5, h => exact h
  | 6, h => exact h
  | 7, h => exact h
  | 8, h => exact h
  | 9, h => exact h
  | 10, h => exact h
  | 11, h => exact h
  | 12, h => exact h
  | 13, h => exact h
  | 14, h => exact h
  | 15, h => exact h
  | 16, h => exact h
  | 17, h => exact h
  | 18, h => exact h
  | 19, h => exact h
  | 20, h => exact h
  | 21, h => exact h
  | 22, h => exact h
  | 23, h => exact h
  | 24, h => exact h
  | 25, h => exact h
  | 26, h => exact h
  | 27, h => exact h
  | 28, h => exact h
  | 29, h => exact h
  | 30, h => exact h
  | 31, h => exact h
  | 32, h => exact h
  | 33, h => exact h
  | 34, h => exact SeqIn.chg h c (fun b _ hs _ x => Nat.lt_irrefl _ (Nat.lt_of_lt_of_le x hs)) fun _ _ _ r => r
  | 35, h => exact h
  | 36, h => exact h
  | _ + 37, h => exact h
def chg6_I (w wr : World) (B : List UInt8) (k : Nat) (vo : Value) : Nat → (Nat → Value) → World → Prop
  | 0, _, w' => OwnG w.heap.size 81 IsU32 w'.heap vo (SH.sched B k) ∧ Keeps wr w'
  | 1, vs, w' => OwnG w.heap.size 81 IsU32 w'.heap (vs 35) (SH.sched B k ++ [SH.nextW B (SH.sched B k) k]) ∧ Keeps w w'
  | _, vs, w' => OwnG w.heap.size 81 IsU32 w'.heap (vs 36) (SH.sched B k ++ [SH.nextW B (SH.sched B k) k]) ∧ Keeps w w'
def chg9 (k b7 o7 qv N : Nat) (B : List UInt8) (x3 x4 s0 s1 : Nat) : Nat → Value → World → Prop
  | 16, v, w => SeqIn (N ≤ ·) 81 IsU32 w.heap v [SH.nextW B (SH.sched B k) k]
  | 17, _, _ => True
  | 18, _, _ => True
  | i, v, _ => v = ([.slice (some ⟨b7, o7, none⟩) k qv, .slice (some ⟨b7, o7, none⟩) k qv, .int .i64 (k : Int), .int .i64 ((k : Int) - 16), .pointer (some ⟨b7, o7 + (k - 16), none⟩), .int .u32 (x3 : Int), .slice (some ⟨b7, o7, none⟩) k qv, .int .i64 (k : Int), .int .i64 ((k : Int) - 7), .pointer (some ⟨b7, o7 + (k - 7), none⟩), .int .u32 (x4 : Int), .int .u32 (((x3 : Int) + (x4 : Int)) % 4294967296), .int .u32 (s0 : Int), .int .u32 (((x3 : Int) + (x4 : Int) + (s0 : Int)) % 4294967296), .int .u32 (s1 : Int), .int .u32 (((x3 : Int) + (x4 : Int) + (s0 : Int) + (s1 : Int)) % 4294967296), undef, undef, undef] : List Value).getD i undef
theorem chg9_chg {k b7 o7 qv N : Nat} {B : List UInt8} {x3 x4 s0 s1 : Nat} (i : Nat) (v : Value) (w w' : World) (c : Chg (fun b => b < N) w w') (h : chg9 k b7 o7 qv N B x3 x4 s0 s1 i v w) : chg9 k b7 o7 qv N B x3 x4 s0 s1 i v w' := by
  match i, h with
  | 0, h => exact h
  | 1, h => exact h
  | 2, h => exact h
  | 3, h => exact h
  | 4, h => exact h
  | 5, h => exact h
  | 6, h => exact h
  | 7, h => exact h
  | 8, h => exact h
  | 9, h => exact h
  | 10, h => exact h
  | 11, h => exact h
  | 12, h => exact h
  | 13, h => exact h
  | 14, h => exact h
  | 15, h => exact h
  | 16, h => exact SeqIn.chg h c (fun b _ hs _ x => Nat.lt_irrefl _ (Nat.lt_of_lt_of_le x hs)) fun _ _ _ r => r
  | 17, h => exact h
  | 18, h => exact h
  | _ + 19, h => exact h
def chg9_I (w wr : World) (B : List UInt8) (k : Nat) (vo : Value) : Nat → (Nat → Value) → World → Prop
  | 0, _, w' => OwnG w.heap.size 81 IsU32 w'.heap vo (SH.sched B k) ∧ Keeps wr w'
  | 1, vs, w' => OwnG w.heap.size 81 IsU32 w'.heap (vs 17) (SH.sched B k ++ [SH.nextW B (SH.sched B k) k]) ∧ Keeps w w'
  | _, vs, w' => OwnG w.heap.size 81 IsU32 w'.heap (vs 18) (SH.sched B k ++ [SH.nextW B (SH.sched B k) k]) ∧ Keeps w w'
def chg24 (bn on cn N : Nat) (F : List Nat) (s0 s1 s2 s3 s4 s5 s6 s7 t0 t1 t2 t3 t4 t5 t6 t7 : Nat) : Nat → Value → World → Prop
  | 40, v, w => OwnG N 81 IsU32 w.heap v F
  | 41, v, w => OwnG N 81 IsU32 w.heap v F
  | i, v, _ => v = ([.slice (some ⟨bn, on, none⟩) 8 cn, .pointer (some ⟨bn, on, none⟩), .int .u32 (s0 : Int), .int .u32 (t0 : Int), .int .u32 (((s0 : Int) + (t0 : Int)) % 4294967296), .slice (some ⟨bn, on, none⟩) 8 cn, .pointer (some ⟨bn, on + 1, none⟩), .int .u32 (s1 : Int), .int .u32 (t1 : Int), .int .u32 (((s1 : Int) + (t1 : Int)) % 4294967296), .slice (some ⟨bn, on, none⟩) 8 cn, .pointer (some ⟨bn, on + 2, none⟩), .int .u32 (s2 : Int), .int .u32 (t2 : Int), .int .u32 (((s2 : Int) + (t2 : Int)) % 4294967296), .slice (some ⟨bn, on, none⟩) 8 cn, .pointer (some ⟨bn, on + 3, none⟩), .int .u32 (s3 : Int), .int .u32 (t3 : Int), .int .u32 (((s3 : Int) + (t3 : Int)) % 4294967296), .slice (some ⟨bn, on, none⟩) 8 cn, .pointer (some ⟨bn, on + 4, none⟩), .int .u32 (s4 : Int), .int .u32 (t4 : Int), .int .u32 (((s4 : Int) + (t4 : Int)) % 4294967296), .slice (some ⟨bn, on, none⟩) 8 cn, .pointer (some ⟨bn, on + 5, none⟩), .int .u32 (s5 : Int), .int .u32 (t5 : Int), .int .u32 (((s5 : Int) + (t5 : Int)) % 4294967296), .slice (some ⟨bn, on, none⟩) 8 cn, .pointer (some ⟨bn, on + 6, none⟩), .int .u32 (s6 : Int), .int .u32 (t6 : Int), .int .u32 (((s6 : Int) + (t6 : Int)) % 4294967296), .slice (some ⟨bn, on, none⟩) 8 cn, .pointer (some ⟨bn, on + 7, none⟩), .int .u32 (s7 : Int), .int .u32 (t7 : Int), .int .u32 (((s7 : Int) + (t7 : Int)) % 4294967296), undef, undef] : List Value).getD i undef
theorem chg24_keeps {bn on cn N : Nat} {F : List Nat} {s0 s1 s2 s3 s4 s5 s6 s7 t0 t1 t2 t3 t4 t5 t6 t7 : Nat} (i : Nat) (v : Value) (w w' : World) (c : Keeps w w') (h : chg24 bn on cn N F s0 s1 s2 s3 s4 s5 s6 s7 t0 t1 t2 t3 t4 t5 t6 t7 i v w) : chg24 bn on cn N F s0 s1 s2 s3 s4 s5 s6 s7 t0 t1 t2 t3 t4 t5 t6 t7 i v w' := by
  match i, h with
  | 0, h => exact h
  | 1, h => exact h
  | 2, h => exact h
  | 3, h => exact h
  | 4, h => exact h
  | 5, h => exact h
  | 6, h => exact h
  | 7, h => exact h
  | 8, h => exact h
  | 9, h => exact h
  | 10, h => exact h
  | 11, h => exact h
  | 12, h => exact h
  | 13, h => exact h
  | 14, h => exact h
  | 15, h => exact h
  | 16, h => exact h
  | 17, h => exact h
  | 18, h => exact h
  | 19, h => exact h
  | 20, h => exact h
  | 21, h => exact h
  | 22, h => exact h
  | 23, h => exact h
  | 24, h => exact h
  | 25, h => exact h
  | 26, h => exact h
  | 27, h => exact h
  | 28, h => exact h
  | 29, h => exact h
  | 30, h => exact h
  | 31, h => exact h
  | 32, h => exact h
  | 33, h => exact h
  | 34, h => exact h
  | 35, h => exact h
  | 36, h => exact h
  | 37, h => exact h
  | 38, h => exact h
  | 39, h => exact h
  | 40, h => exact OwnG.keeps h c
  | 41, h => exact OwnG.keeps h c
  | _ + 42, h => exact h
set_option maxRecDepth 100000 in
set_option maxHeartbeats 4000000 in
theorem refchange_any (vn va vb : Value) (S : List Nat) (B : List UInt8) (w : World) (hn : SeqAt IsU32 w.heap vn S) (hS : SH.Ok8 S) (ha : SeqAt IsU32 w.heap va SH.KL) (hb : RowAt w.heap vb B) (hB : B.length = 64) :
    Calls Try.prog 74 #[vn, va, vb] w fun e w' => ∃ v, e = .returned v ∧ OwnG w.heap.size 81 IsU32 w'.heap v (SH.chgS S B) ∧ Keeps w w' := by
  obtain ⟨bn, on, cn, _, rfl, -⟩ := seq_cell hn (i := 0) (by rw [hS.1]; omega)
  obtain ⟨ba, oa, ca, _, rfl, -⟩ := seq_cell ha (i := 0) (by decide)
  obtain ⟨bb, ob, cb, _, rfl, -⟩ := seq_cell hb (i := 0) (by omega)
  have HNS := Lib.hid hn
  have HAS := Lib.hid ha
  have HBS := Lib.hid hb
  have HOK := Lib.hid hS
  have HBL := Lib.hid hB
  have hS8 : S.length = 8 := hS.1
  have hKL : SH.KL.length = 64 := rfl
  rw [hB, hS8, hKL]
  clear hn ha hb hB hS hS8 hKL
  go_enter Try.func74, Try.ntmps74
  go_wp2_with fail
  go_loopw [7, 8] (fun v i wr => ∃ k : Nat, k ≤ 64 ∧ i = .int .i64 k ∧ Hid (OwnG w.heap.size 81 IsU32 wr.heap v (SH.sched B k)) ∧ Hid (Keeps w wr)) (fun _ i _ => 64 - (intOf i).toNat)
  case atStart => exact ⟨0, by omega, rfl, OwnG.nil _ _ _ _, keeps_refl w⟩
  case round =>
    obtain ⟨k, hk, rfl, hO, hK⟩ := hrel
    obtain ⟨pv, qv, rfl⟩ := own_shape hO.out
    have hSL := SH.sched_length B k
    rw [hSL] at hO ⊢
    clear hSL
    have HW : Hid (w.heap.size ≤ wr.heap.size) := hK.out.size
    have HSZ : Hid (∀ w1 : World, Keeps wr w1 → wr.heap.size ≤ w1.heap.size) := fun _ h => h.size
    have HLT : Hid (∀ b, (Value.slice pv k qv).ownBlock = some b → b < wr.heap.size) := fun b hb => (hO.out.lt hb).2.1
    have HKR := hK
    obtain ⟨N, hN⟩ : ∃ N, N = wr.heap.size := ⟨_, rfl⟩
    have HNN := Lib.hid hN
    rw [← hN] at HLT HSZ
    clear hN
    by_cases hlt : k < 64
    · have i1 : (k : Int) < 64 := by omega
      by_cases h16 : k < 16
      · have i2 : (k : Int) < 16 := by omega
        have HBR : Hid (∀ i, i < 64 → wr.cell? ⟨bb, ob + i, none⟩ = some (.int .u8 (SH.byteAt B i : Int))) := fun i hi => row_byte (SeqAt.keeps HBS.out hK.out) (by have := HBL.out; omega)
        have b0 := HBR.out (4 * k) (by omega)
        have b1 := HBR.out (4 * k + 1) (by omega)
        have b2 := HBR.out (4 * k + 2) (by omega)
        have b3 := HBR.out (4 * k + 3) (by omega)
        have l0 := SH.byteAt_lt B (4 * k)
        have l1 := SH.byteAt_lt B (4 * k + 1)
        have l2 := SH.byteAt_lt B (4 * k + 2)
        have l3 := SH.byteAt_lt B (4 * k + 3)
        have HE : Hid ((SH.byteAt B (4 * k) : Int) * 16777216 + (SH.byteAt B (4 * k + 1) : Int) * 65536 + (SH.byteAt B (4 * k + 2) : Int) * 256 + (SH.byteAt B (4 * k + 3) : Int) = (SH.nextW B (SH.sched B k) k : Int)) := by
          show _ = _
          unfold SH.nextW; rw [if_pos h16]; unfold SH.be32; omega
        clear HBR
        generalize SH.byteAt B (4 * k) = x0 at *
        generalize SH.byteAt B (4 * k + 1) = x1 at *
        generalize SH.byteAt B (4 * k + 2) = x2 at *
        generalize SH.byteAt B (4 * k + 3) = x3 at *
        have HO := hO
        have HK := hK
        clear hO hK
        have j0 : (0 : Int) ≤ 4 * (k : Int) := by omega
        have j1 : (0 : Int) ≤ 4 * (k : Int) + 1 := by omega
        have j2 : (0 : Int) ≤ 4 * (k : Int) + 2 := by omega
        have j3 : (0 : Int) ≤ 4 * (k : Int) + 3 := by omega
        have f0 : 4 * (k : Int) < 64 := by omega
        have f1 : 4 * (k : Int) + 1 < 64 := by omega
        have f2 : 4 * (k : Int) + 2 < 64 := by omega
        have f3 : 4 * (k : Int) + 3 < 64 := by omega
        have t0 : (4 * (k : Int)).toNat = 4 * k := by omega
        have t1 : (4 * (k : Int) + 1).toNat = 4 * k + 1 := by omega
        have t2 : (4 * (k : Int) + 2).toNat = 4 * k + 2 := by omega
        have t3 : (4 * (k : Int) + 3).toNat = 4 * k + 3 := by omega
        have W31 : Hid (IntKind.i64.wrap (4 * (k : Int)) = 4 * (k : Int)) := IntWalk.i64_in _ (by omega)
        have W34 : Hid (IntKind.u32.wrap ((x0 : Int)) = (x0 : Int)) := IntWalk.u32_in _ (by omega)
        have W35 : Hid (IntKind.u32.wrap ((x0 : Int) * 16777216) = (x0 : Int) * 16777216) := IntWalk.u32_in _ (by omega)
        have W38 : Hid (IntKind.i64.wrap (4 * (k : Int)) = 4 * (k : Int)) := IntWalk.i64_in _ (by omega)
        have W39 : Hid (IntKind.i64.wrap (4 * (k : Int) + 1) = 4 * (k : Int) + 1) := IntWalk.i64_in _ (by omega)
        have W42 : Hid (IntKind.u32.wrap ((x1 : Int)) = (x1 : Int)) := IntWalk.u32_in _ (by omega)
        have W43 : Hid (IntKind.u32.wrap ((x1 : Int) * 65536) = (x1 : Int) * 65536) := IntWalk.u32_in _ (by omega)
        have W47 : Hid (IntKind.i64.wrap (4 * (k : Int)) = 4 * (k : Int)) := IntWalk.i64_in _ (by omega)
        have W48 : Hid (IntKind.i64.wrap (4 * (k : Int) + 2) = 4 * (k : Int) + 2) := IntWalk.i64_in _ (by omega)
        have W51 : Hid (IntKind.u32.wrap ((x2 : Int)) = (x2 : Int)) := IntWalk.u32_in _ (by omega)
        have W52 : Hid (IntKind.u32.wrap ((x2 : Int) * 256) = (x2 : Int) * 256) := IntWalk.u32_in _ (by omega)
        have W56 : Hid (IntKind.i64.wrap (4 * (k : Int)) = 4 * (k : Int)) := IntWalk.i64_in _ (by omega)
        have W57 : Hid (IntKind.i64.wrap (4 * (k : Int) + 3) = 4 * (k : Int) + 3) := IntWalk.i64_in _ (by omega)
        have W60 : Hid (IntKind.u32.wrap ((x3 : Int)) = (x3 : Int)) := IntWalk.u32_in _ (by omega)
        have W44 : Hid (IntKind.u32.wrap ((x0 : Int) * 16777216 + (x1 : Int) * 65536) = (x0 : Int) * 16777216 + (x1 : Int) * 65536) := IntWalk.u32_in _ (by omega)
        have W53 : Hid (IntKind.u32.wrap ((x0 : Int) * 16777216 + (x1 : Int) * 65536 + (x2 : Int) * 256) = (x0 : Int) * 16777216 + (x1 : Int) * 65536 + (x2 : Int) * 256) := IntWalk.u32_in _ (by omega)
        have W61 : Hid (IntKind.u32.wrap ((x0 : Int) * 16777216 + (x1 : Int) * 65536 + (x2 : Int) * 256 + (x3 : Int)) = (x0 : Int) * 16777216 + (x1 : Int) * 65536 + (x2 : Int) * 256 + (x3 : Int)) := IntWalk.u32_in _ (by omega)
        go_wp2_with fail
        refine wp_region_stage [28, 29, 30, 31, 32, 33, 34, 35, 36, 37, 38, 39, 40, 41, 42, 43, 44, 45, 46, 47, 48, 49, 50, 51, 52, 53, 54, 55, 56, 57, 58, 59, 60, 61, 62, 63, 7] [[], [], [], [2], [1, 3], [4], [5], [6], [], [], [9], [10], [8, 11], [12], [13], [14], [7, 15], [], [], [18], [19], [17, 20], [21], [22], [23], [16, 24], [], [], [27], [28], [26, 29], [30], [31], [25, 32], [33], [0, 34], [35]] [35, 36] [0, 0, 0, 0, 0, 0, 0, 0, 0, 0, 0, 0, 0, 0, 0, 0, 0, 0, 0, 0, 0, 0, 0, 0, 0, 0, 0, 0, 0, 0, 0, 0, 0, 0, 0, 0, 1] [] (chg6 k bb ob cb pv qv N B x0 x1 x2 x3) (fun w w' => Chg (fun b => b < N) w w') (chg6_I w wr B k (.slice pv k qv)) (by kernel_rfl) (by kernel_rfl) (by kernel_rfl) (by kernel_rfl) (by kernel_rfl) (by kernel_rfl) (by kernel_rfl) ?_ ?_ ?_ ?_ ?_ ?_ ?_
        · exact fun i v w w' c h => chg6_chg i v w w' c h
        · exact fun w => Chg.refl _ w
        · exact fun i s vs w h => by cases h
        · refine ⟨?_, ?_, ?_, ?_, ?_, ?_, ?_, ?_, ?_, ?_, ?_, ?_, ?_, ?_, ?_, ?_, ?_, ?_, ?_, ?_, ?_, ?_, ?_, ?_, ?_, ?_, ?_, ?_, ?_, ?_, ?_, ?_, ?_, ?_, ?_, ?_, ?_, trivial⟩
          · exact fun g b h => by (cases h)
          · exact fun g b h => by (cases h)
          · exact fun g b h => by (cases h)
          · exact fun g b h => by (cases h)
          · exact fun g b h => by (cases h)
          · exact fun g b h => by (cases h)
          · exact fun g b h => by (cases h)
          · exact fun g b h => by (cases h)
          · exact fun g b h => by (cases h)
          · exact fun g b h => by (cases h)
          · exact fun g b h => by (cases h)
          · exact fun g b h => by (cases h)
          · exact fun g b h => by (cases h)
          · exact fun g b h => by (cases h)
          · exact fun g b h => by (cases h)
          · exact fun g b h => by (cases h)
          · exact fun g b h => by (cases h)
          · exact fun g b h => by (cases h)
          · exact fun g b h => by (cases h)
          · exact fun g b h => by (cases h)
          · exact fun g b h => by (cases h)
          · exact fun g b h => by (cases h)
          · exact fun g b h => by (cases h)
          · exact fun g b h => by (cases h)
          · exact fun g b h => by (cases h)
          · exact fun g b h => by (cases h)
          · exact fun g b h => by (cases h)
          · exact fun g b h => by (cases h)
          · exact fun g b h => by (cases h)
          · exact fun g b h => by (cases h)
          · exact fun g b h => by (cases h)
          · exact fun g b h => by (cases h)
          · exact fun g b h => by (cases h)
          · exact fun g b h => by (cases h)
          · exact fun g b h => by (cases h)
          · exact fun g b h => by (cases h)
          · exact fun g b h => by (cases h)
        · exact fun _ _ => ⟨HO.out, keeps_refl wr⟩
        · refine ⟨?_, ?_, ?_, ?_, ?_, ?_, ?_, ?_, ?_, ?_, ?_, ?_, ?_, ?_, ?_, ?_, ?_, ?_, ?_, ?_, ?_, ?_, ?_, ?_, ?_, ?_, ?_, ?_, ?_, ?_, ?_, ?_, ?_, ?_, ?_, ?_, ?_, trivial⟩
          · intro _ a w1 vs hI ho hn hu K hK
            have e7 : a.tmps[7]? = some (.slice pv k qv) := hu 36 (by decide) (by decide)
            clear hn ho hu
            have hI : OwnG w.heap.size 81 IsU32 w1.heap (.slice pv k qv) (SH.sched B k) ∧ Keeps wr w1 := hI
            go_simp
            exact hK _ _ (Chg.refl _ _) hI rfl
          · intro _ a w1 vs hI ho hn hu K hK
            have e2 : a.tmps[2]? = some (.slice (some ⟨bb, ob, none⟩) 64 cb) := ho 2 rfl
            clear hn ho hu
            have hI : OwnG w.heap.size 81 IsU32 w1.heap (.slice pv k qv) (SH.sched B k) ∧ Keeps wr w1 := hI
            go_simp
            exact hK _ _ (Chg.refl _ _) hI rfl
          · intro _ a w1 vs hI ho hn hu K hK
            have e8 : a.tmps[8]? = some (.int .i64 (k : Int)) := ho 8 rfl
            clear hn ho hu
            have hI : OwnG w.heap.size 81 IsU32 w1.heap (.slice pv k qv) (SH.sched B k) ∧ Keeps wr w1 := hI
            go_simp
            exact hK _ _ (Chg.refl _ _) hI rfl
          · intro _ a w1 vs hI ho hn hu K hK
            obtain ⟨e30, g30⟩ : a.tmps[30]? = some (vs 2) ∧ vs 2 = .int .i64 (k : Int) := hn 2 (by decide)
            rw [g30] at e30
            clear g30
            clear hn ho hu
            have hI : OwnG w.heap.size 81 IsU32 w1.heap (.slice pv k qv) (SH.sched B k) ∧ Keeps wr w1 := hI
            go_simp
            first | exact hK _ _ (Chg.refl _ _) hI rfl | (rw [W31.out]; exact hK _ _ (Chg.refl _ _) hI rfl)
          · intro _ a w1 vs hI ho hn hu K hK
            obtain ⟨e29, g29⟩ : a.tmps[29]? = some (vs 1) ∧ vs 1 = .slice (some ⟨bb, ob, none⟩) 64 cb := hn 1 (by decide)
            rw [g29] at e29
            clear g29
            obtain ⟨e31, g31⟩ : a.tmps[31]? = some (vs 3) ∧ vs 3 = .int .i64 (4 * (k : Int)) := hn 3 (by decide)
            rw [g31] at e31
            clear g31
            clear hn ho hu
            have hI : OwnG w.heap.size 81 IsU32 w1.heap (.slice pv k qv) (SH.sched B k) ∧ Keeps wr w1 := hI
            go_simp
            exact hK _ _ (Chg.refl _ _) hI rfl
          · intro _ a w1 vs hI ho hn hu K hK
            obtain ⟨e32, g32⟩ : a.tmps[32]? = some (vs 4) ∧ vs 4 = .pointer (some ⟨bb, ob + 4 * k, none⟩) := hn 4 (by decide)
            rw [g32] at e32
            clear g32
            clear hn ho hu
            have hI : OwnG w.heap.size 81 IsU32 w1.heap (.slice pv k qv) (SH.sched B k) ∧ Keeps wr w1 := hI
            have c := keeps_cell hI.2 b0
            go_simp
            exact hK _ _ (Chg.refl _ _) hI rfl
          · intro _ a w1 vs hI ho hn hu K hK
            obtain ⟨e33, g33⟩ : a.tmps[33]? = some (vs 5) ∧ vs 5 = .int .u8 (x0 : Int) := hn 5 (by decide)
            rw [g33] at e33
            clear g33
            clear hn ho hu
            have hI : OwnG w.heap.size 81 IsU32 w1.heap (.slice pv k qv) (SH.sched B k) ∧ Keeps wr w1 := hI
            go_simp
            first | exact hK _ _ (Chg.refl _ _) hI rfl | (rw [W34.out]; exact hK _ _ (Chg.refl _ _) hI rfl)
          · intro _ a w1 vs hI ho hn hu K hK
            obtain ⟨e34, g34⟩ : a.tmps[34]? = some (vs 6) ∧ vs 6 = .int .u32 ((x0 : Int)) := hn 6 (by decide)
            rw [g34] at e34
            clear g34
            clear hn ho hu
            have hI : OwnG w.heap.size 81 IsU32 w1.heap (.slice pv k qv) (SH.sched B k) ∧ Keeps wr w1 := hI
            go_simp
            first | exact hK _ _ (Chg.refl _ _) hI rfl | (rw [W35.out]; exact hK _ _ (Chg.refl _ _) hI rfl)
          · intro _ a w1 vs hI ho hn hu K hK
            have e2 : a.tmps[2]? = some (.slice (some ⟨bb, ob, none⟩) 64 cb) := ho 2 rfl
            clear hn ho hu
            have hI : OwnG w.heap.size 81 IsU32 w1.heap (.slice pv k qv) (SH.sched B k) ∧ Keeps wr w1 := hI
            go_simp
            exact hK _ _ (Chg.refl _ _) hI rfl
          · intro _ a w1 vs hI ho hn hu K hK
            have e8 : a.tmps[8]? = some (.int .i64 (k : Int)) := ho 8 rfl
            clear hn ho hu
            have hI : OwnG w.heap.size 81 IsU32 w1.heap (.slice pv k qv) (SH.sched B k) ∧ Keeps wr w1 := hI
            go_simp
            exact hK _ _ (Chg.refl _ _) hI rfl
          · intro _ a w1 vs hI ho hn hu K hK
            obtain ⟨e37, g37⟩ : a.tmps[37]? = some (vs 9) ∧ vs 9 = .int .i64 (k : Int) := hn 9 (by decide)
            rw [g37] at e37
            clear g37
            clear hn ho hu
            have hI : OwnG w.heap.size 81 IsU32 w1.heap (.slice pv k qv) (SH.sched B k) ∧ Keeps wr w1 := hI
            go_simp
            first | exact hK _ _ (Chg.refl _ _) hI rfl | (rw [W38.out]; exact hK _ _ (Chg.refl _ _) hI rfl)
          · intro _ a w1 vs hI ho hn hu K hK
            obtain ⟨e38, g38⟩ : a.tmps[38]? = some (vs 10) ∧ vs 10 = .int .i64 (4 * (k : Int)) := hn 10 (by decide)
            rw [g38] at e38
            clear g38
            clear hn ho hu
            have hI : OwnG w.heap.size 81 IsU32 w1.heap (.slice pv k qv) (SH.sched B k) ∧ Keeps wr w1 := hI
            go_simp
            first | exact hK _ _ (Chg.refl _ _) hI rfl | (rw [W39.out]; exact hK _ _ (Chg.refl _ _) hI rfl)
          · intro _ a w1 vs hI ho hn hu K hK
            obtain ⟨e36, g36⟩ : a.tmps[36]? = some (vs 8) ∧ vs 8 = .slice (some ⟨bb, ob, none⟩) 64 cb := hn 8 (by decide)
            rw [g36] at e36
            clear g36
            obtain ⟨e39, g39⟩ : a.tmps[39]? = some (vs 11) ∧ vs 11 = .int .i64 (4 * (k : Int) + 1) := hn 11 (by decide)
            rw [g39] at e39
            clear g39
            clear hn ho hu
            have hI : OwnG w.heap.size 81 IsU32 w1.heap (.slice pv k qv) (SH.sched B k) ∧ Keeps wr w1 := hI
            go_simp
            exact hK _ _ (Chg.refl _ _) hI rfl
          · intro _ a w1 vs hI ho hn hu K hK
            obtain ⟨e40, g40⟩ : a.tmps[40]? = some (vs 12) ∧ vs 12 = .pointer (some ⟨bb, ob + (4 * k + 1), none⟩) := hn 12 (by decide)
            rw [g40] at e40
            clear g40
            clear hn ho hu
            have hI : OwnG w.heap.size 81 IsU32 w1.heap (.slice pv k qv) (SH.sched B k) ∧ Keeps wr w1 := hI
            have c := keeps_cell hI.2 b1
            go_simp
            exact hK _ _ (Chg.refl _ _) hI rfl
          · intro _ a w1 vs hI ho hn hu K hK
            obtain ⟨e41, g41⟩ : a.tmps[41]? = some (vs 13) ∧ vs 13 = .int .u8 (x1 : Int) := hn 13 (by decide)
            rw [g41] at e41
            clear g41
            clear hn ho hu
            have hI : OwnG w.heap.size 81 IsU32 w1.heap (.slice pv k qv) (SH.sched B k) ∧ Keeps wr w1 := hI
            go_simp
            first | exact hK _ _ (Chg.refl _ _) hI rfl | (rw [W42.out]; exact hK _ _ (Chg.refl _ _) hI rfl)
          · intro _ a w1 vs hI ho hn hu K hK
            obtain ⟨e42, g42⟩ : a.tmps[42]? = some (vs 14) ∧ vs 14 = .int .u32 ((x1 : Int)) := hn 14 (by decide)
            rw [g42] at e42
            clear g42
            clear hn ho hu
            have hI : OwnG w.heap.size 81 IsU32 w1.heap (.slice pv k qv) (SH.sched B k) ∧ Keeps wr w1 := hI
            go_simp
            first | exact hK _ _ (Chg.refl _ _) hI rfl | (rw [W43.out]; exact hK _ _ (Chg.refl _ _) hI rfl)
          · intro _ a w1 vs hI ho hn hu K hK
            obtain ⟨e35, g35⟩ : a.tmps[35]? = some (vs 7) ∧ vs 7 = .int .u32 ((x0 : Int) * 16777216) := hn 7 (by decide)
            rw [g35] at e35
            clear g35
            obtain ⟨e43, g43⟩ : a.tmps[43]? = some (vs 15) ∧ vs 15 = .int .u32 ((x1 : Int) * 65536) := hn 15 (by decide)
            rw [g43] at e43
            clear g43
            clear hn ho hu
            have hI : OwnG w.heap.size 81 IsU32 w1.heap (.slice pv k qv) (SH.sched B k) ∧ Keeps wr w1 := hI
            go_simp
            first | exact hK _ _ (Chg.refl _ _) hI rfl | (rw [W44.out]; exact hK _ _ (Chg.refl _ _) hI rfl)
          · intro _ a w1 vs hI ho hn hu K hK
            have e2 : a.tmps[2]? = some (.slice (some ⟨bb, ob, none⟩) 64 cb) := ho 2 rfl
            clear hn ho hu
            have hI : OwnG w.heap.size 81 IsU32 w1.heap (.slice pv k qv) (SH.sched B k) ∧ Keeps wr w1 := hI
            go_simp
            exact hK _ _ (Chg.refl _ _) hI rfl
          · intro _ a w1 vs hI ho hn hu K hK
            have e8 : a.tmps[8]? = some (.int .i64 (k : Int)) := ho 8 rfl
            clear hn ho hu
            have hI : OwnG w.heap.size 81 IsU32 w1.heap (.slice pv k qv) (SH.sched B k) ∧ Keeps wr w1 := hI
            go_simp
            exact hK _ _ (Chg.refl _ _) hI rfl
          · intro _ a w1 vs hI ho hn hu K hK
            obtain ⟨e46, g46⟩ : a.tmps[46]? = some (vs 18) ∧ vs 18 = .int .i64 (k : Int) := hn 18 (by decide)
            rw [g46] at e46
            clear g46
            clear hn ho hu
            have hI : OwnG w.heap.size 81 IsU32 w1.heap (.slice pv k qv) (SH.sched B k) ∧ Keeps wr w1 := hI
            go_simp
            first | exact hK _ _ (Chg.refl _ _) hI rfl | (rw [W47.out]; exact hK _ _ (Chg.refl _ _) hI rfl)
          · intro _ a w1 vs hI ho hn hu K hK
            obtain ⟨e47, g47⟩ : a.tmps[47]? = some (vs 19) ∧ vs 19 = .int .i64 (4 * (k : Int)) := hn 19 (by decide)
            rw [g47] at e47
            clear g47
            clear hn ho hu
            have hI : OwnG w.heap.size 81 IsU32 w1.heap (.slice pv k qv) (SH.sched B k) ∧ Keeps wr w1 := hI
            go_simp
            first | exact hK _ _ (Chg.refl _ _) hI rfl | (rw [W48.out]; exact hK _ _ (Chg.refl _ _) hI rfl)
          · intro _ a w1 vs hI ho hn hu K hK
            obtain ⟨e45, g45⟩ : a.tmps[45]? = some (vs 17) ∧ vs 17 = .slice (some ⟨bb, ob, none⟩) 64 cb := hn 17 (by decide)
            rw [g45] at e45
            clear g45
            obtain ⟨e48, g48⟩ : a.tmps[48]? = some (vs 20) ∧ vs 20 = .int .i64 (4 * (k : Int) + 2) := hn 20 (by decide)
            rw [g48] at e48
            clear g48
            clear hn ho hu
            have hI : OwnG w.heap.size 81 IsU32 w1.heap (.slice pv k qv) (SH.sched B k) ∧ Keeps wr w1 := hI
            go_simp
            exact hK _ _ (Chg.refl _ _) hI rfl
          · intro _ a w1 vs hI ho hn hu K hK
            obtain ⟨e49, g49⟩ : a.tmps[49]? = some (vs 21) ∧ vs 21 = .pointer (some ⟨bb, ob + (4 * k + 2), none⟩) := hn 21 (by decide)
            rw [g49] at e49
            clear g49
            clear hn ho hu
            have hI : OwnG w.heap.size 81 IsU32 w1.heap (.slice pv k qv) (SH.sched B k) ∧ Keeps wr w1 := hI
            have c := keeps_cell hI.2 b2
            go_simp
            exact hK _ _ (Chg.refl _ _) hI rfl
          · intro _ a w1 vs hI ho hn hu K hK
            obtain ⟨e50, g50⟩ : a.tmps[50]? = some (vs 22) ∧ vs 22 = .int .u8 (x2 : Int) := hn 22 (by decide)
            rw [g50] at e50
            clear g50
            clear hn ho hu
            have hI : OwnG w.heap.size 81 IsU32 w1.heap (.slice pv k qv) (SH.sched B k) ∧ Keeps wr w1 := hI
            go_simp
            first | exact hK _ _ (Chg.refl _ _) hI rfl | (rw [W51.out]; exact hK _ _ (Chg.refl _ _) hI rfl)
          · intro _ a w1 vs hI ho hn hu K hK
            obtain ⟨e51, g51⟩ : a.tmps[51]? = some (vs 23) ∧ vs 23 = .int .u32 ((x2 : Int)) := hn 23 (by decide)
            rw [g51] at e51
            clear g51
            clear hn ho hu
            have hI : OwnG w.heap.size 81 IsU32 w1.heap (.slice pv k qv) (SH.sched B k) ∧ Keeps wr w1 := hI
            go_simp
            first | exact hK _ _ (Chg.refl _ _) hI rfl | (rw [W52.out]; exact hK _ _ (Chg.refl _ _) hI rfl)
          · intro _ a w1 vs hI ho hn hu K hK
            obtain ⟨e44, g44⟩ : a.tmps[44]? = some (vs 16) ∧ vs 16 = .int .u32 ((x0 : Int) * 16777216 + (x1 : Int) * 65536) := hn 16 (by decide)
            rw [g44] at e44
            clear g44
            obtain ⟨e52, g52⟩ : a.tmps[52]? = some (vs 24) ∧ vs 24 = .int .u32 ((x2 : Int) * 256) := hn 24 (by decide)
            rw [g52] at e52
            clear g52
            clear hn ho hu
            have hI : OwnG w.heap.size 81 IsU32 w1.heap (.slice pv k qv) (SH.sched B k) ∧ Keeps wr w1 := hI
            go_simp
            first | exact hK _ _ (Chg.refl _ _) hI rfl | (rw [W53.out]; exact hK _ _ (Chg.refl _ _) hI rfl)
          · intro _ a w1 vs hI ho hn hu K hK
            have e2 : a.tmps[2]? = some (.slice (some ⟨bb, ob, none⟩) 64 cb) := ho 2 rfl
            clear hn ho hu
            have hI : OwnG w.heap.size 81 IsU32 w1.heap (.slice pv k qv) (SH.sched B k) ∧ Keeps wr w1 := hI
            go_simp
            exact hK _ _ (Chg.refl _ _) hI rfl
          · intro _ a w1 vs hI ho hn hu K hK
            have e8 : a.tmps[8]? = some (.int .i64 (k : Int)) := ho 8 rfl
            clear hn ho hu
            have hI : OwnG w.heap.size 81 IsU32 w1.heap (.slice pv k qv) (SH.sched B k) ∧ Keeps wr w1 := hI
            go_simp
            exact hK _ _ (Chg.refl _ _) hI rfl
          · intro _ a w1 vs hI ho hn hu K hK
            obtain ⟨e55, g55⟩ : a.tmps[55]? = some (vs 27) ∧ vs 27 = .int .i64 (k : Int) := hn 27 (by decide)
            rw [g55] at e55
            clear g55
            clear hn ho hu
            have hI : OwnG w.heap.size 81 IsU32 w1.heap (.slice pv k qv) (SH.sched B k) ∧ Keeps wr w1 := hI
            go_simp
            first | exact hK _ _ (Chg.refl _ _) hI rfl | (rw [W56.out]; exact hK _ _ (Chg.refl _ _) hI rfl)
          · intro _ a w1 vs hI ho hn hu K hK
            obtain ⟨e56, g56⟩ : a.tmps[56]? = some (vs 28) ∧ vs 28 = .int .i64 (4 * (k : Int)) := hn 28 (by decide)
            rw [g56] at e56
            clear g56
            clear hn ho hu
            have hI : OwnG w.heap.size 81 IsU32 w1.heap (.slice pv k qv) (SH.sched B k) ∧ Keeps wr w1 := hI
            go_simp
            first | exact hK _ _ (Chg.refl _ _) hI rfl | (rw [W57.out]; exact hK _ _ (Chg.refl _ _) hI rfl)
          · intro _ a w1 vs hI ho hn hu K hK
            obtain ⟨e54, g54⟩ : a.tmps[54]? = some (vs 26) ∧ vs 26 = .slice (some ⟨bb, ob, none⟩) 64 cb := hn 26 (by decide)
            rw [g54] at e54
            clear g54
            obtain ⟨e57, g57⟩ : a.tmps[57]? = some (vs 29) ∧ vs 29 = .int .i64 (4 * (k : Int) + 3) := hn 29 (by decide)
            rw [g57] at e57
            clear g57
            clear hn ho hu
            have hI : OwnG w.heap.size 81 IsU32 w1.heap (.slice pv k qv) (SH.sched B k) ∧ Keeps wr w1 := hI
            go_simp
            exact hK _ _ (Chg.refl _ _) hI rfl
          · intro _ a w1 vs hI ho hn hu K hK
            obtain ⟨e58, g58⟩ : a.tmps[58]? = some (vs 30) ∧ vs 30 = .pointer (some ⟨bb, ob + (4 * k + 3), none⟩) := hn 30 (by decide)
            rw [g58] at e58
            clear g58
            clear hn ho hu
            have hI : OwnG w.heap.size 81 IsU32 w1.heap (.slice pv k qv) (SH.sched B k) ∧ Keeps wr w1 := hI
            have c := keeps_cell hI.2 b3
            go_simp
            exact hK _ _ (Chg.refl _ _) hI rfl
          · intro _ a w1 vs hI ho hn hu K hK
            obtain ⟨e59, g59⟩ : a.tmps[59]? = some (vs 31) ∧ vs 31 = .int .u8 (x3 : Int) := hn 31 (by decide)
            rw [g59] at e59
            clear g59
            clear hn ho hu
            have hI : OwnG w.heap.size 81 IsU32 w1.heap (.slice pv k qv) (SH.sched B k) ∧ Keeps wr w1 := hI
            go_simp
            first | exact hK _ _ (Chg.refl _ _) hI rfl | (rw [W60.out]; exact hK _ _ (Chg.refl _ _) hI rfl)
          · intro _ a w1 vs hI ho hn hu K hK
            obtain ⟨e53, g53⟩ : a.tmps[53]? = some (vs 25) ∧ vs 25 = .int .u32 ((x0 : Int) * 16777216 + (x1 : Int) * 65536 + (x2 : Int) * 256) := hn 25 (by decide)
            rw [g53] at e53
            clear g53
            obtain ⟨e60, g60⟩ : a.tmps[60]? = some (vs 32) ∧ vs 32 = .int .u32 ((x3 : Int)) := hn 32 (by decide)
            rw [g60] at e60
            clear g60
            clear hn ho hu
            have hI : OwnG w.heap.size 81 IsU32 w1.heap (.slice pv k qv) (SH.sched B k) ∧ Keeps wr w1 := hI
            go_simp
            first | exact hK _ _ (Chg.refl _ _) hI rfl | (rw [W61.out]; exact hK _ _ (Chg.refl _ _) hI rfl)
          · intro _ a w1 vs hI ho hn hu K hK
            obtain ⟨e61, g61⟩ : a.tmps[61]? = some (vs 33) ∧ vs 33 = .int .u32 ((x0 : Int) * 16777216 + (x1 : Int) * 65536 + (x2 : Int) * 256 + (x3 : Int)) := hn 33 (by decide)
            rw [g61] at e61
            clear g61
            clear hn ho hu
            have hI : OwnG w.heap.size 81 IsU32 w1.heap (.slice pv k qv) (SH.sched B k) ∧ Keeps wr w1 := hI
            go_simp
            rw [HE.out]
            exact hK _ _ (Kept.any (kal _ _)) ⟨hI.1.keeps (kal _ _), hI.2.trans (kal _ _)⟩ (seqIn_lit1 w1 _ _ 81 (HSZ.out _ hI.2) rfl)
          · intro _ a w1 vs hI ho hn hu K hK
            obtain ⟨e28, g28⟩ : a.tmps[28]? = some (vs 0) ∧ vs 0 = .slice pv k qv := hn 0 (by decide)
            rw [g28] at e28
            clear g28
            obtain ⟨e62, g62⟩ : a.tmps[62]? = some (vs 34) ∧ SeqIn (N ≤ ·) 81 IsU32 w1.heap (vs 34) [SH.nextW B (SH.sched B k) k] := hn 34 (by decide)
            clear hn ho hu
            have hI : OwnG w.heap.size 81 IsU32 w1.heap (.slice pv k qv) (SH.sched B k) ∧ Keeps wr w1 := hI
            refine oper_appG elU32 (R := IsU32) (l := SH.sched B k) (m := [SH.nextW B (SH.sched B k) k]) (fun u x h => by rw [h]; rfl) (.tmp 28) (.tmp 62) rfl w.heap.size (.slice pv k qv) (by simp [Act.eval, e28]) hI.1 (vs 34) (by simp [Act.eval, e62]) (SeqIn.at_ g62) (by rw [SH.sched_length]; simp; omega) (Nat.le_trans HW.out hI.2.size) ?_
            intro v' w' ho hc _
            exact hK v' w' (hc.mono fun b _ hb => HLT.out b hb) ⟨by rw [upd_self]; exact ho, own_then hI.1 (HKR.out.trans hI.2) (Nat.le_refl _) (Nat.le_trans HW.out hI.2.size) hc⟩ trivial
          · intro _ a w1 vs hI ho hn hu K hK
            obtain ⟨e63, g63⟩ : a.tmps[63]? = some (vs 35) ∧ True := hn 35 (by decide)
            clear hn ho hu
            have hI : OwnG w.heap.size 81 IsU32 w1.heap (vs 35) (SH.sched B k ++ [SH.nextW B (SH.sched B k) k]) ∧ Keeps w w1 := hI
            go_simp
            exact hK _ _ (Chg.refl _ _) ⟨by rw [upd_self]; exact hI.1, hI.2⟩ trivial
        · intro vs w4 hI hG
          have hI : OwnG w.heap.size 81 IsU32 w4.heap (vs 36) (SH.sched B k ++ [SH.nextW B (SH.sched B k) k]) ∧ Keeps w w4 := hI
          clear hG
          simp only [setAll, Nat.zero_add, Nat.reduceAdd, List.setIfInBounds_toArray, List.set_cons_zero, List.set_cons_succ]
          have HO4 : Hid (OwnG w.heap.size 81 IsU32 w4.heap (vs 36) (SH.sched B (k + 1))) := hI.1
          have HK4 := Lib.hid hI.2
          clear hI
          generalize vs 0 = y0 at *
          generalize vs 1 = y1 at *
          generalize vs 2 = y2 at *
          generalize vs 3 = y3 at *
          generalize vs 4 = y4 at *
          generalize vs 5 = y5 at *
          generalize vs 6 = y6 at *
          generalize vs 7 = y7 at *
          generalize vs 8 = y8 at *
          generalize vs 9 = y9 at *
          generalize vs 10 = y10 at *
          generalize vs 11 = y11 at *
          generalize vs 12 = y12 at *
          generalize vs 13 = y13 at *
          generalize vs 14 = y14 at *
          generalize vs 15 = y15 at *
          generalize vs 16 = y16 at *
          generalize vs 17 = y17 at *
          generalize vs 18 = y18 at *
          generalize vs 19 = y19 at *
          generalize vs 20 = y20 at *
          generalize vs 21 = y21 at *
          generalize vs 22 = y22 at *
          generalize vs 23 = y23 at *
          generalize vs 24 = y24 at *
          generalize vs 25 = y25 at *
          generalize vs 26 = y26 at *
          generalize vs 27 = y27 at *
          generalize vs 28 = y28 at *
          generalize vs 29 = y29 at *
          generalize vs 30 = y30 at *
          generalize vs 31 = y31 at *
          generalize vs 32 = y32 at *
          generalize vs 33 = y33 at *
          generalize vs 34 = y34 at *
          generalize vs 35 = y35 at *
          generalize vs 36 = y36 at *
          clear HO HK HSZ HLT HKR
          go_wp2_with fail
          exact ⟨⟨k + 1, by omega, by go_num, HO4, HK4⟩, by simp [intOf]; omega⟩
      · have hpos : 0 < k := by omega
        obtain ⟨b7, o7, c7, _, e7, -⟩ := seq_cell (SeqIn.at_ hO.out.seq) (i := 0) (by rw [SH.sched_length]; exact hpos)
        injection e7 with e8 e9 e10
        subst e8
        clear e9 e10
        have HR : Hid (∀ i, i < k → wr.cell? ⟨b7, o7 + i, none⟩ = some (.int .u32 ((SH.sched B k).getD i 0 : Int))) := fun i hi => row_u32 (SeqIn.at_ hO.out.seq) (by rw [SH.sched_length]; exact hi)
        have hlo : ∀ i, i < k → (SH.sched B k).getD i 0 < 4294967296 := fun i hi => by rw [SH.sched_get B hi]; exact SH.nextW_lt _ _ _
        have c15 := HR.out (k - 15) (by omega)
        have c2 := HR.out (k - 2) (by omega)
        have c16 := HR.out (k - 16) (by omega)
        have c7 := HR.out (k - 7) (by omega)
        have l1 := hlo (k - 15) (by omega)
        have l2 := hlo (k - 2) (by omega)
        have l3 := hlo (k - 16) (by omega)
        have l4 := hlo (k - 7) (by omega)
        have HN : Hid (SH.nextW B (SH.sched B k) k = ((SH.sched B k).getD (k - 16) 0 + (SH.sched B k).getD (k - 7) 0 + SH.sg0 ((SH.sched B k).getD (k - 15) 0) + SH.sg1 ((SH.sched B k).getD (k - 2) 0)) % 4294967296) := by
          show _ = _
          unfold SH.nextW
          rw [if_neg h16]
        clear HR hlo
        generalize (SH.sched B k).getD (k - 15) 0 = x1 at *
        generalize (SH.sched B k).getD (k - 2) 0 = x2 at *
        generalize (SH.sched B k).getD (k - 16) 0 = x3 at *
        generalize (SH.sched B k).getD (k - 7) 0 = x4 at *
        have HS0 := Lib.hid (sg0_bits x1 l1)
        have HS1 := Lib.hid (sg1_bits x2 l2)
        have HM := Lib.hid (sum4_mod x3 x4 (SH.sg0 x1) (SH.sg1 x2))
        have n1 : ((k : Int) - 15).toNat = k - 15 := by omega
        have n2 : ((k : Int) - 2).toNat = k - 2 := by omega
        have n3 : ((k : Int) - 16).toNat = k - 16 := by omega
        have n4 : ((k : Int) - 7).toNat = k - 7 := by omega
        have m1 : 0 ≤ (k : Int) - 15 := by omega
        have m2 : 0 ≤ (k : Int) - 2 := by omega
        have m3 : 0 ≤ (k : Int) - 16 := by omega
        have m4 : 0 ≤ (k : Int) - 7 := by omega
        have q1 : (k : Int) - 15 < (k : Int) := by omega
        have q2 : (k : Int) - 2 < (k : Int) := by omega
        have q3 : (k : Int) - 16 < (k : Int) := by omega
        have q4 : (k : Int) - 7 < (k : Int) := by omega
        have v1 : IntKind.i64.wrap ((k : Int) - 15) = (k : Int) - 15 := IntWalk.i64_in _ (by omega)
        have v2 : IntKind.i64.wrap ((k : Int) - 2) = (k : Int) - 2 := IntWalk.i64_in _ (by omega)
        have v3 : IntKind.i64.wrap ((k : Int) - 16) = (k : Int) - 16 := IntWalk.i64_in _ (by omega)
        have v4 : IntKind.i64.wrap ((k : Int) - 7) = (k : Int) - 7 := IntWalk.i64_in _ (by omega)
        go_wp2_with fail
        go_quiet ((first | (go_at_call_of 78 (Value.int .u32 7); refine Calls.mono (refturn_any x1 7 _ l1 (by omega) (by omega)) ?_; rintro e w' ⟨rfl, rfl⟩; exact ⟨rfl, _, rfl⟩) | (go_at_call_of 78 (Value.int .u32 18); refine Calls.mono (refturn_any x1 18 _ l1 (by omega) (by omega)) ?_; rintro e w' ⟨rfl, rfl⟩; exact ⟨rfl, _, rfl⟩)))
        go_wp2_with fail
        rw [HS0.out]
        go_quiet ((first | (go_at_call_of 78 (Value.int .u32 17); refine Calls.mono (refturn_any x2 17 _ l2 (by omega) (by omega)) ?_; rintro e w' ⟨rfl, rfl⟩; exact ⟨rfl, _, rfl⟩) | (go_at_call_of 78 (Value.int .u32 19); refine Calls.mono (refturn_any x2 19 _ l2 (by omega) (by omega)) ?_; rintro e w' ⟨rfl, rfl⟩; exact ⟨rfl, _, rfl⟩)))
        rw [HS1.out]
        have HE : Hid (((x3 : Int) + (x4 : Int) + (SH.sg0 x1 : Int) + (SH.sg1 x2 : Int)) % 4294967296 = (SH.nextW B (SH.sched B k) k : Int)) := by
          show _ = _
          rw [HM.out, HN.out]
        generalize SH.sg0 x1 = s0 at *
        generalize SH.sg1 x2 = s1 at *
        go_wp2_with fail
        refine (fun (h : ∀ wq : World, Keeps wr wq → Code.wp _ _ _ _ wq) => h _ (by exact keeps_refl wr)) ?_
        intro wq hkq
        have HO := Lib.hid (hO.out.keeps hkq)
        have HK := Lib.hid (hK.out.trans hkq)
        have c16 := keeps_cell hkq c16
        have c7 := keeps_cell hkq c7
        have HW : Hid (w.heap.size ≤ wq.heap.size) := HK.out.size
        have HSZ : Hid (∀ w1 : World, Keeps wq w1 → wq.heap.size ≤ w1.heap.size) := fun _ h => h.size
        have HLT : Hid (∀ b, (Value.slice (some ⟨b7, o7, none⟩) k qv).ownBlock = some b → b < wq.heap.size) := fun b hb => (HO.out.lt hb).2.1
        have HKR := HK
        obtain ⟨N, hN⟩ : ∃ N, N = wq.heap.size := ⟨_, rfl⟩
        rw [← hN] at HLT HSZ
        clear hN hkq hO hK HS0 HS1 HM HN
        have r7 : (7 : Int) ≤ (k : Int) := by omega
        have r16 : (16 : Int) ≤ (k : Int) := by omega
        have W117 : Hid (IntKind.u32.wrap (((x3 : Int) + (x4 : Int)) % 4294967296 + (s0 : Int)) = ((x3 : Int) + (x4 : Int) + (s0 : Int)) % 4294967296) := by show _ = _; rw [IntKind.wrap_u32]; omega
        have W119 : Hid (IntKind.u32.wrap (((x3 : Int) + (x4 : Int) + (s0 : Int)) % 4294967296 + (s1 : Int)) = ((x3 : Int) + (x4 : Int) + (s0 : Int) + (s1 : Int)) % 4294967296) := by show _ = _; rw [IntKind.wrap_u32]; omega
        refine wp_region_stage [104, 105, 106, 107, 108, 109, 110, 111, 112, 113, 114, 115, 116, 117, 118, 119, 120, 121, 7] [[], [], [], [2], [1, 3], [4], [], [], [7], [6, 8], [9], [5, 10], [], [11, 12], [], [13, 14], [15], [0, 16], [17]] [17, 18] [0, 0, 0, 0, 0, 0, 0, 0, 0, 0, 0, 0, 0, 0, 0, 0, 0, 0, 1] [] (chg9 k b7 o7 qv N B x3 x4 s0 s1) (fun w w' => Chg (fun b => b < N) w w') (chg9_I w wq B k (.slice (some ⟨b7, o7, none⟩) k qv)) (by kernel_rfl) (by kernel_rfl) (by kernel_rfl) (by kernel_rfl) (by kernel_rfl) (by kernel_rfl) (by kernel_rfl) ?_ ?_ ?_ ?_ ?_ ?_ ?_
        · exact fun i v w w' c h => chg9_chg i v w w' c h
        · exact fun w => Chg.refl _ w
        · exact fun i s vs w h => by cases h
        · refine ⟨?_, ?_, ?_, ?_, ?_, ?_, ?_, ?_, ?_, ?_, ?_, ?_, ?_, ?_, ?_, ?_, ?_, ?_, ?_, trivial⟩
          · exact fun g b h => by (cases h)
          · exact fun g b h => by (cases h)
          · exact fun g b h => by (cases h)
          · exact fun g b h => by (cases h)
          · exact fun g b h => by (cases h)
          · exact fun g b h => by (cases h)
          · exact fun g b h => by (cases h)
          · exact fun g b h => by (cases h)
          · exact fun g b h => by (cases h)
          · exact fun g b h => by (cases h)
          · exact fun g b h => by (cases h)
          · exact fun g b h => by (cases h)
          · exact fun g b h => by (cases h)
          · exact fun g b h => by (cases h)
          · exact fun g b h => by (cases h)
          · exact fun g b h => by (cases h)
          · exact fun g b h => by (cases h)
          · exact fun g b h => by (cases h)
          · exact fun g b h => by (cases h)
        · exact fun _ _ => ⟨HO.out, keeps_refl wq⟩
        · refine ⟨?_, ?_, ?_, ?_, ?_, ?_, ?_, ?_, ?_, ?_, ?_, ?_, ?_, ?_, ?_, ?_, ?_, ?_, ?_, trivial⟩
          · intro _ a w1 vs hI ho hn hu K hK
            have e7 : a.tmps[7]? = some (.slice (some ⟨b7, o7, none⟩) k qv) := hu 18 (by decide) (by decide)
            clear hn ho hu
            have hI : OwnG w.heap.size 81 IsU32 w1.heap (.slice (some ⟨b7, o7, none⟩) k qv) (SH.sched B k) ∧ Keeps wq w1 := hI
            go_simp
            exact hK _ _ (Chg.refl _ _) hI rfl
          · intro _ a w1 vs hI ho hn hu K hK
            have e7 : a.tmps[7]? = some (.slice (some ⟨b7, o7, none⟩) k qv) := hu 18 (by decide) (by decide)
            clear hn ho hu
            have hI : OwnG w.heap.size 81 IsU32 w1.heap (.slice (some ⟨b7, o7, none⟩) k qv) (SH.sched B k) ∧ Keeps wq w1 := hI
            go_simp
            exact hK _ _ (Chg.refl _ _) hI rfl
          · intro _ a w1 vs hI ho hn hu K hK
            have e8 : a.tmps[8]? = some (.int .i64 (k : Int)) := ho 8 rfl
            clear hn ho hu
            have hI : OwnG w.heap.size 81 IsU32 w1.heap (.slice (some ⟨b7, o7, none⟩) k qv) (SH.sched B k) ∧ Keeps wq w1 := hI
            go_simp
            exact hK _ _ (Chg.refl _ _) hI rfl
          · intro _ a w1 vs hI ho hn hu K hK
            obtain ⟨e106, g106⟩ : a.tmps[106]? = some (vs 2) ∧ vs 2 = .int .i64 (k : Int) := hn 2 (by decide)
            rw [g106] at e106
            clear g106
            clear hn ho hu
            have hI : OwnG w.heap.size 81 IsU32 w1.heap (.slice (some ⟨b7, o7, none⟩) k qv) (SH.sched B k) ∧ Keeps wq w1 := hI
            go_simp
            exact hK _ _ (Chg.refl _ _) hI rfl
          · intro _ a w1 vs hI ho hn hu K hK
            obtain ⟨e105, g105⟩ : a.tmps[105]? = some (vs 1) ∧ vs 1 = .slice (some ⟨b7, o7, none⟩) k qv := hn 1 (by decide)
            rw [g105] at e105
            clear g105
            obtain ⟨e107, g107⟩ : a.tmps[107]? = some (vs 3) ∧ vs 3 = .int .i64 ((k : Int) - 16) := hn 3 (by decide)
            rw [g107] at e107
            clear g107
            clear hn ho hu
            have hI : OwnG w.heap.size 81 IsU32 w1.heap (.slice (some ⟨b7, o7, none⟩) k qv) (SH.sched B k) ∧ Keeps wq w1 := hI
            go_simp
            exact hK _ _ (Chg.refl _ _) hI rfl
          · intro _ a w1 vs hI ho hn hu K hK
            obtain ⟨e108, g108⟩ : a.tmps[108]? = some (vs 4) ∧ vs 4 = .pointer (some ⟨b7, o7 + (k - 16), none⟩) := hn 4 (by decide)
            rw [g108] at e108
            clear g108
            clear hn ho hu
            have hI : OwnG w.heap.size 81 IsU32 w1.heap (.slice (some ⟨b7, o7, none⟩) k qv) (SH.sched B k) ∧ Keeps wq w1 := hI
            have c := keeps_cell hI.2 c16
            go_simp
            exact hK _ _ (Chg.refl _ _) hI rfl
          · intro _ a w1 vs hI ho hn hu K hK
            have e7 : a.tmps[7]? = some (.slice (some ⟨b7, o7, none⟩) k qv) := hu 18 (by decide) (by decide)
            clear hn ho hu
            have hI : OwnG w.heap.size 81 IsU32 w1.heap (.slice (some ⟨b7, o7, none⟩) k qv) (SH.sched B k) ∧ Keeps wq w1 := hI
            go_simp
            exact hK _ _ (Chg.refl _ _) hI rfl
          · intro _ a w1 vs hI ho hn hu K hK
            have e8 : a.tmps[8]? = some (.int .i64 (k : Int)) := ho 8 rfl
            clear hn ho hu
            have hI : OwnG w.heap.size 81 IsU32 w1.heap (.slice (some ⟨b7, o7, none⟩) k qv) (SH.sched B k) ∧ Keeps wq w1 := hI
            go_simp
            exact hK _ _ (Chg.refl _ _) hI rfl
          · intro _ a w1 vs hI ho hn hu K hK
            obtain ⟨e111, g111⟩ : a.tmps[111]? = some (vs 7) ∧ vs 7 = .int .i64 (k : Int) := hn 7 (by decide)
            rw [g111] at e111
            clear g111
            clear hn ho hu
            have hI : OwnG w.heap.size 81 IsU32 w1.heap (.slice (some ⟨b7, o7, none⟩) k qv) (SH.sched B k) ∧ Keeps wq w1 := hI
            go_simp
            exact hK _ _ (Chg.refl _ _) hI rfl
          · intro _ a w1 vs hI ho hn hu K hK
            obtain ⟨e110, g110⟩ : a.tmps[110]? = some (vs 6) ∧ vs 6 = .slice (some ⟨b7, o7, none⟩) k qv := hn 6 (by decide)
            rw [g110] at e110
            clear g110
            obtain ⟨e112, g112⟩ : a.tmps[112]? = some (vs 8) ∧ vs 8 = .int .i64 ((k : Int) - 7) := hn 8 (by decide)
            rw [g112] at e112
            clear g112
            clear hn ho hu
            have hI : OwnG w.heap.size 81 IsU32 w1.heap (.slice (some ⟨b7, o7, none⟩) k qv) (SH.sched B k) ∧ Keeps wq w1 := hI
            go_simp
            exact hK _ _ (Chg.refl _ _) hI rfl
          · intro _ a w1 vs hI ho hn hu K hK
            obtain ⟨e113, g113⟩ : a.tmps[113]? = some (vs 9) ∧ vs 9 = .pointer (some ⟨b7, o7 + (k - 7), none⟩) := hn 9 (by decide)
            rw [g113] at e113
            clear g113
            clear hn ho hu
            have hI : OwnG w.heap.size 81 IsU32 w1.heap (.slice (some ⟨b7, o7, none⟩) k qv) (SH.sched B k) ∧ Keeps wq w1 := hI
            have c := keeps_cell hI.2 c7
            go_simp
            exact hK _ _ (Chg.refl _ _) hI rfl
          · intro _ a w1 vs hI ho hn hu K hK
            obtain ⟨e109, g109⟩ : a.tmps[109]? = some (vs 5) ∧ vs 5 = .int .u32 (x3 : Int) := hn 5 (by decide)
            rw [g109] at e109
            clear g109
            obtain ⟨e114, g114⟩ : a.tmps[114]? = some (vs 10) ∧ vs 10 = .int .u32 (x4 : Int) := hn 10 (by decide)
            rw [g114] at e114
            clear g114
            clear hn ho hu
            have hI : OwnG w.heap.size 81 IsU32 w1.heap (.slice (some ⟨b7, o7, none⟩) k qv) (SH.sched B k) ∧ Keeps wq w1 := hI
            go_simp
            exact hK _ _ (Chg.refl _ _) hI rfl
          · intro _ a w1 vs hI ho hn hu K hK
            have e9 : a.tmps[9]? = some (.int .u32 (s0 : Int)) := ho 9 rfl
            clear hn ho hu
            have hI : OwnG w.heap.size 81 IsU32 w1.heap (.slice (some ⟨b7, o7, none⟩) k qv) (SH.sched B k) ∧ Keeps wq w1 := hI
            go_simp
            exact hK _ _ (Chg.refl _ _) hI rfl
          · intro _ a w1 vs hI ho hn hu K hK
            obtain ⟨e115, g115⟩ : a.tmps[115]? = some (vs 11) ∧ vs 11 = .int .u32 (((x3 : Int) + (x4 : Int)) % 4294967296) := hn 11 (by decide)
            rw [g115] at e115
            clear g115
            obtain ⟨e116, g116⟩ : a.tmps[116]? = some (vs 12) ∧ vs 12 = .int .u32 (s0 : Int) := hn 12 (by decide)
            rw [g116] at e116
            clear g116
            clear hn ho hu
            have hI : OwnG w.heap.size 81 IsU32 w1.heap (.slice (some ⟨b7, o7, none⟩) k qv) (SH.sched B k) ∧ Keeps wq w1 := hI
            go_simp
            rw [W117.out]
            exact hK _ _ (Chg.refl _ _) hI rfl
          · intro _ a w1 vs hI ho hn hu K hK
            have e10 : a.tmps[10]? = some (.int .u32 (s1 : Int)) := ho 10 rfl
            clear hn ho hu
            have hI : OwnG w.heap.size 81 IsU32 w1.heap (.slice (some ⟨b7, o7, none⟩) k qv) (SH.sched B k) ∧ Keeps wq w1 := hI
            go_simp
            exact hK _ _ (Chg.refl _ _) hI rfl
          · intro _ a w1 vs hI ho hn hu K hK
            obtain ⟨e117, g117⟩ : a.tmps[117]? = some (vs 13) ∧ vs 13 = .int .u32 (((x3 : Int) + (x4 : Int) + (s0 : Int)) % 4294967296) := hn 13 (by decide)
            rw [g117] at e117
            clear g117
            obtain ⟨e118, g118⟩ : a.tmps[118]? = some (vs 14) ∧ vs 14 = .int .u32 (s1 : Int) := hn 14 (by decide)
            rw [g118] at e118
            clear g118
            clear hn ho hu
            have hI : OwnG w.heap.size 81 IsU32 w1.heap (.slice (some ⟨b7, o7, none⟩) k qv) (SH.sched B k) ∧ Keeps wq w1 := hI
            go_simp
            rw [W119.out]
            exact hK _ _ (Chg.refl _ _) hI rfl
          · intro _ a w1 vs hI ho hn hu K hK
            obtain ⟨e119, g119⟩ : a.tmps[119]? = some (vs 15) ∧ vs 15 = .int .u32 (((x3 : Int) + (x4 : Int) + (s0 : Int) + (s1 : Int)) % 4294967296) := hn 15 (by decide)
            rw [g119] at e119
            clear g119
            clear hn ho hu
            have hI : OwnG w.heap.size 81 IsU32 w1.heap (.slice (some ⟨b7, o7, none⟩) k qv) (SH.sched B k) ∧ Keeps wq w1 := hI
            go_simp
            rw [HE.out]
            exact hK _ _ (Kept.any (kal _ _)) ⟨hI.1.keeps (kal _ _), hI.2.trans (kal _ _)⟩ (seqIn_lit1 w1 _ _ 81 (HSZ.out _ hI.2) rfl)
          · intro _ a w1 vs hI ho hn hu K hK
            obtain ⟨e104, g104⟩ : a.tmps[104]? = some (vs 0) ∧ vs 0 = .slice (some ⟨b7, o7, none⟩) k qv := hn 0 (by decide)
            rw [g104] at e104
            clear g104
            obtain ⟨e120, g120⟩ : a.tmps[120]? = some (vs 16) ∧ SeqIn (N ≤ ·) 81 IsU32 w1.heap (vs 16) [SH.nextW B (SH.sched B k) k] := hn 16 (by decide)
            clear hn ho hu
            have hI : OwnG w.heap.size 81 IsU32 w1.heap (.slice (some ⟨b7, o7, none⟩) k qv) (SH.sched B k) ∧ Keeps wq w1 := hI
            refine oper_appG elU32 (R := IsU32) (l := SH.sched B k) (m := [SH.nextW B (SH.sched B k) k]) (fun u x h => by rw [h]; rfl) (.tmp 104) (.tmp 120) rfl w.heap.size (.slice (some ⟨b7, o7, none⟩) k qv) (by simp [Act.eval, e104]) hI.1 (vs 16) (by simp [Act.eval, e120]) (SeqIn.at_ g120) (by rw [SH.sched_length]; simp; omega) (Nat.le_trans HW.out hI.2.size) ?_
            intro v' w' ho hc _
            exact hK v' w' (hc.mono fun b _ hb => HLT.out b hb) ⟨by rw [upd_self]; exact ho, own_then hI.1 (HKR.out.trans hI.2) (Nat.le_refl _) (Nat.le_trans HW.out hI.2.size) hc⟩ trivial
          · intro _ a w1 vs hI ho hn hu K hK
            obtain ⟨e121, g121⟩ : a.tmps[121]? = some (vs 17) ∧ True := hn 17 (by decide)
            clear hn ho hu
            have hI : OwnG w.heap.size 81 IsU32 w1.heap (vs 17) (SH.sched B k ++ [SH.nextW B (SH.sched B k) k]) ∧ Keeps w w1 := hI
            go_simp
            exact hK _ _ (Chg.refl _ _) ⟨by rw [upd_self]; exact hI.1, hI.2⟩ trivial
        · intro vs w4 hI hG
          have hI : OwnG w.heap.size 81 IsU32 w4.heap (vs 18) (SH.sched B k ++ [SH.nextW B (SH.sched B k) k]) ∧ Keeps w w4 := hI
          clear hG
          simp only [setAll, Nat.zero_add, Nat.reduceAdd, List.setIfInBounds_toArray, List.set_cons_zero, List.set_cons_succ]
          have HO4 : Hid (OwnG w.heap.size 81 IsU32 w4.heap (vs 18) (SH.sched B (k + 1))) := hI.1
          have HK4 := Lib.hid hI.2
          clear hI
          generalize vs 0 = y0 at *
          generalize vs 1 = y1 at *
          generalize vs 2 = y2 at *
          generalize vs 3 = y3 at *
          generalize vs 4 = y4 at *
          generalize vs 5 = y5 at *
          generalize vs 6 = y6 at *
          generalize vs 7 = y7 at *
          generalize vs 8 = y8 at *
          generalize vs 9 = y9 at *
          generalize vs 10 = y10 at *
          generalize vs 11 = y11 at *
          generalize vs 12 = y12 at *
          generalize vs 13 = y13 at *
          generalize vs 14 = y14 at *
          generalize vs 15 = y15 at *
          generalize vs 16 = y16 at *
          generalize vs 17 = y17 at *
          generalize vs 18 = y18 at *
          clear HO HK HSZ HLT HKR
          go_wp2_with fail
          exact ⟨⟨k + 1, by omega, by go_num, HO4, HK4⟩, by simp [intOf]; omega⟩
    · obtain rfl : k = 64 := by omega
      have hpos : 0 < 64 := by omega
      obtain ⟨b7, o7, c7, _, e7, -⟩ := seq_cell (SeqIn.at_ hO.out.seq) (i := 0) (by rw [SH.sched_length]; omega)
      injection e7 with e8 e9 e10
      subst e8
      clear e9 e10
      have n0 : wr.cell? ⟨bn, on, none⟩ = some (.int .u32 (SH.at8 S 0 : Int)) := row_u32 (SeqAt.keeps HNS.out hK.out) (i := 0) (by rw [HOK.out.1]; omega)
      have n1 : wr.cell? ⟨bn, on + 1, none⟩ = some (.int .u32 (SH.at8 S 1 : Int)) := row_u32 (SeqAt.keeps HNS.out hK.out) (i := 1) (by rw [HOK.out.1]; omega)
      have n2 : wr.cell? ⟨bn, on + 2, none⟩ = some (.int .u32 (SH.at8 S 2 : Int)) := row_u32 (SeqAt.keeps HNS.out hK.out) (i := 2) (by rw [HOK.out.1]; omega)
      have n3 : wr.cell? ⟨bn, on + 3, none⟩ = some (.int .u32 (SH.at8 S 3 : Int)) := row_u32 (SeqAt.keeps HNS.out hK.out) (i := 3) (by rw [HOK.out.1]; omega)
      have n4 : wr.cell? ⟨bn, on + 4, none⟩ = some (.int .u32 (SH.at8 S 4 : Int)) := row_u32 (SeqAt.keeps HNS.out hK.out) (i := 4) (by rw [HOK.out.1]; omega)
      have n5 : wr.cell? ⟨bn, on + 5, none⟩ = some (.int .u32 (SH.at8 S 5 : Int)) := row_u32 (SeqAt.keeps HNS.out hK.out) (i := 5) (by rw [HOK.out.1]; omega)
      have n6 : wr.cell? ⟨bn, on + 6, none⟩ = some (.int .u32 (SH.at8 S 6 : Int)) := row_u32 (SeqAt.keeps HNS.out hK.out) (i := 6) (by rw [HOK.out.1]; omega)
      have n7 : wr.cell? ⟨bn, on + 7, none⟩ = some (.int .u32 (SH.at8 S 7 : Int)) := row_u32 (SeqAt.keeps HNS.out hK.out) (i := 7) (by rw [HOK.out.1]; omega)
      go_wp2_with fail
      go_quiet (fail)
      go_wp2_with fail
      refine (fun (h : ∀ wq : World, Keeps wr wq → Code.wp _ _ _ _ wq) => h _ (by exact keeps_refl wr)) ?_
      intro wq hkq
      have HO := Lib.hid (hO.out.keeps hkq)
      have HK := Lib.hid (hK.out.trans hkq)
      have HN2 : Hid (SeqAt IsU32 wq.heap (.slice (some ⟨bn, on, none⟩) S.length cn) S) := SeqAt.keeps HNS.out HK.out
      have HA2 : Hid (SeqAt IsU32 wq.heap (.slice (some ⟨ba, oa, none⟩) SH.KL.length ca) SH.KL) := SeqAt.keeps HAS.out HK.out
      clear hO hK hkq HNN HSZ HLT HKR HW n0 n1 n2 n3 n4 n5 n6 n7
      go_loopw [11, 12, 13, 14, 15, 16, 17, 18, 19] (fun a b c d e f g h i wx => ∃ k : Nat, k ≤ 64 ∧ i = .int .i64 k ∧ a = .int .u32 (SH.at8 (SH.rnds B S k) 0 : Int) ∧ b = .int .u32 (SH.at8 (SH.rnds B S k) 1 : Int) ∧ c = .int .u32 (SH.at8 (SH.rnds B S k) 2 : Int) ∧ d = .int .u32 (SH.at8 (SH.rnds B S k) 3 : Int) ∧ e = .int .u32 (SH.at8 (SH.rnds B S k) 4 : Int) ∧ f = .int .u32 (SH.at8 (SH.rnds B S k) 5 : Int) ∧ g = .int .u32 (SH.at8 (SH.rnds B S k) 6 : Int) ∧ h = .int .u32 (SH.at8 (SH.rnds B S k) 7 : Int) ∧ Hid (Keeps wq wx)) (fun _ _ _ _ _ _ _ _ i _ => 64 - (intOf i).toNat)
      case atStart => exact ⟨0, by omega, rfl, rfl, rfl, rfl, rfl, rfl, rfl, rfl, rfl, keeps_refl wq⟩
      case round =>
        obtain ⟨k, hk2, rfl, rfl, rfl, rfl, rfl, rfl, rfl, rfl, rfl, hK⟩ := hrel
        have HOK2 := Lib.hid (SH.ok_rnds B HOK.out k)
        by_cases hlt2 : k < 64
        · have i1 : (k : Int) < 64 := by omega
          have l0 := HOK2.out.2 0
          have l1 := HOK2.out.2 1
          have l2 := HOK2.out.2 2
          have l3 := HOK2.out.2 3
          have l4 := HOK2.out.2 4
          have l5 := HOK2.out.2 5
          have l6 := HOK2.out.2 6
          have l7 := HOK2.out.2 7
          have cK : wr.cell? ⟨ba, oa + k, none⟩ = some (.int .u32 (SH.KL.getD k 0 : Int)) := row_u32 (SeqAt.keeps HA2.out hK.out) hlt2
          have cW : wr.cell? ⟨b7, o7 + k, none⟩ = some (.int .u32 (SH.wAt B k : Int)) := row_u32 (SeqAt.keeps (SeqIn.at_ HO.out.seq) hK.out) (by rw [SH.sched_length]; exact hlt2)
          have lK := SH.KL_lt k
          have lW := SH.wAt_lt B k
          have HX := Lib.hid (x_bits _ _ _ (SH.at8 (SH.rnds B S k) 7) (SH.KL.getD k 0) (SH.wAt B k) l4 l5 l6)
          have HY := Lib.hid (y_bits _ _ _ l0 l1 l2)
          have HS : Hid (SH.rnds B S (k + 1) = [(xN (SH.at8 (SH.rnds B S k) 4) (SH.at8 (SH.rnds B S k) 5) (SH.at8 (SH.rnds B S k) 6) (SH.at8 (SH.rnds B S k) 7) (SH.KL.getD k 0) (SH.wAt B k) + yN (SH.at8 (SH.rnds B S k) 0) (SH.at8 (SH.rnds B S k) 1) (SH.at8 (SH.rnds B S k) 2)) % 4294967296, SH.at8 (SH.rnds B S k) 0, SH.at8 (SH.rnds B S k) 1, SH.at8 (SH.rnds B S k) 2, (SH.at8 (SH.rnds B S k) 3 + xN (SH.at8 (SH.rnds B S k) 4) (SH.at8 (SH.rnds B S k) 5) (SH.at8 (SH.rnds B S k) 6) (SH.at8 (SH.rnds B S k) 7) (SH.KL.getD k 0) (SH.wAt B k)) % 4294967296, SH.at8 (SH.rnds B S k) 4, SH.at8 (SH.rnds B S k) 5, SH.at8 (SH.rnds B S k) 6]) := rfl
          generalize SH.KL.getD k 0 = vK at *
          generalize SH.wAt B k = vW at *
          generalize SH.at8 (SH.rnds B S k) 0 = s0 at *
          generalize SH.at8 (SH.rnds B S k) 1 = s1 at *
          generalize SH.at8 (SH.rnds B S k) 2 = s2 at *
          generalize SH.at8 (SH.rnds B S k) 3 = s3 at *
          generalize SH.at8 (SH.rnds B S k) 4 = s4 at *
          generalize SH.at8 (SH.rnds B S k) 5 = s5 at *
          generalize SH.at8 (SH.rnds B S k) 6 = s6 at *
          generalize SH.at8 (SH.rnds B S k) 7 = s7 at *
          go_wp2_with fail
          go_quiet ((first | (go_at_call_of 78 (Value.int .u32 6); refine Calls.mono (refturn_any s4 6 _ l4 (by omega) (by omega)) ?_; rintro e w' ⟨rfl, rfl⟩; exact ⟨rfl, _, rfl⟩) | (go_at_call_of 78 (Value.int .u32 11); refine Calls.mono (refturn_any s4 11 _ l4 (by omega) (by omega)) ?_; rintro e w' ⟨rfl, rfl⟩; exact ⟨rfl, _, rfl⟩) | (go_at_call_of 78 (Value.int .u32 25); refine Calls.mono (refturn_any s4 25 _ l4 (by omega) (by omega)) ?_; rintro e w' ⟨rfl, rfl⟩; exact ⟨rfl, _, rfl⟩)))
          go_wp2_with fail
          rw [HX.out]
          have lX := xN_lt s4 s5 s6 s7 vK vW
          have lY := yN_lt s0 s1 s2
          generalize xN s4 s5 s6 s7 vK vW = x at *
          clear HX
          refine Calls.mono (refturn_any s0 2 _ l0 (by omega) (by omega)) ?_
          rintro e w' ⟨rfl, rfl⟩
          go_wp2_with fail
          refine Calls.mono (refturn_any s0 13 _ l0 (by omega) (by omega)) ?_
          rintro e w' ⟨rfl, rfl⟩
          go_wp2_with fail
          refine Calls.mono (refturn_any s0 22 _ l0 (by omega) (by omega)) ?_
          rintro e w' ⟨rfl, rfl⟩
          go_wp2_with fail
          rw [HY.out]
          generalize yN s0 s1 s2 = y at *
          clear HY
          have E0 : Hid (Value.int .u32 (((x : Int) + (y : Int)) % 4294967296) = .int .u32 (SH.at8 (SH.rnds B S (k + 1)) 0 : Int)) := by show _ = _; rw [HS.out]; show Value.int .u32 _ = .int .u32 (((x + y) % 4294967296 : Nat) : Int); congr 1
          have E4 : Hid (Value.int .u32 (((s3 : Int) + (x : Int)) % 4294967296) = .int .u32 (SH.at8 (SH.rnds B S (k + 1)) 4 : Int)) := by show _ = _; rw [HS.out]; show Value.int .u32 _ = .int .u32 (((s3 + x) % 4294967296 : Nat) : Int); congr 1
          have E1 : Hid (SH.at8 (SH.rnds B S (k + 1)) 1 = s0) := by show _ = _; rw [HS.out]; rfl
          have E2 : Hid (SH.at8 (SH.rnds B S (k + 1)) 2 = s1) := by show _ = _; rw [HS.out]; rfl
          have E3 : Hid (SH.at8 (SH.rnds B S (k + 1)) 3 = s2) := by show _ = _; rw [HS.out]; rfl
          have E5 : Hid (SH.at8 (SH.rnds B S (k + 1)) 5 = s4) := by show _ = _; rw [HS.out]; rfl
          have E6 : Hid (SH.at8 (SH.rnds B S (k + 1)) 6 = s5) := by show _ = _; rw [HS.out]; rfl
          have E7 : Hid (SH.at8 (SH.rnds B S (k + 1)) 7 = s6) := by show _ = _; rw [HS.out]; rfl
          refine ⟨?_, by simp [intOf]; omega⟩
          repeat apply Exists.intro
          refine ⟨⟨k + 1, by omega, by go_num, E0.out, by rw [E1.out], by rw [E2.out], by rw [E3.out], E4.out, by rw [E5.out], by rw [E6.out], by rw [E7.out], hK.out⟩, rfl⟩
        · obtain rfl : k = 64 := by omega
          have HT : Hid (∀ i, i < 8 → SH.at8 (SH.chgS S B) i = (SH.at8 S i + SH.at8 (SH.rnds B S 64) i) % 4294967296) := fun i hi => SH.addS_at _ _ hi
          have hN3 := SeqAt.keeps HN2.out hK.out
          have n0 : wr.cell? ⟨bn, on, none⟩ = some (.int .u32 (SH.at8 S 0 : Int)) := row_u32 hN3 (i := 0) (by rw [HOK.out.1]; omega)
          have n1 : wr.cell? ⟨bn, on + 1, none⟩ = some (.int .u32 (SH.at8 S 1 : Int)) := row_u32 hN3 (i := 1) (by rw [HOK.out.1]; omega)
          have n2 : wr.cell? ⟨bn, on + 2, none⟩ = some (.int .u32 (SH.at8 S 2 : Int)) := row_u32 hN3 (i := 2) (by rw [HOK.out.1]; omega)
          have n3 : wr.cell? ⟨bn, on + 3, none⟩ = some (.int .u32 (SH.at8 S 3 : Int)) := row_u32 hN3 (i := 3) (by rw [HOK.out.1]; omega)
          have n4 : wr.cell? ⟨bn, on + 4, none⟩ = some (.int .u32 (SH.at8 S 4 : Int)) := row_u32 hN3 (i := 4) (by rw [HOK.out.1]; omega)
          have n5 : wr.cell? ⟨bn, on + 5, none⟩ = some (.int .u32 (SH.at8 S 5 : Int)) := row_u32 hN3 (i := 5) (by rw [HOK.out.1]; omega)
          have n6 : wr.cell? ⟨bn, on + 6, none⟩ = some (.int .u32 (SH.at8 S 6 : Int)) := row_u32 hN3 (i := 6) (by rw [HOK.out.1]; omega)
          have n7 : wr.cell? ⟨bn, on + 7, none⟩ = some (.int .u32 (SH.at8 S 7 : Int)) := row_u32 hN3 (i := 7) (by rw [HOK.out.1]; omega)
          have HK := Lib.hid (HK.out.trans hK.out)
          have HSZ : Hid (∀ w1 : World, Keeps wr w1 → w.heap.size ≤ w1.heap.size) := fun _ h => (HK.out.trans h).size
          obtain ⟨N, hN0⟩ : ∃ N, N = w.heap.size := ⟨_, rfl⟩
          have HN0 := Lib.hid hN0
          rw [← hN0] at HSZ
          obtain ⟨F, hF0⟩ : ∃ F, F = SH.chgS S B := ⟨_, rfl⟩
          have HF0 := Lib.hid hF0
          have HFE : Hid (∀ i (hi : i < F.length), ∃ u, (#[.int .u32 (((SH.at8 S 0 : Int) + (SH.at8 (SH.rnds B S 64) 0 : Int)) % 4294967296), .int .u32 (((SH.at8 S 1 : Int) + (SH.at8 (SH.rnds B S 64) 1 : Int)) % 4294967296), .int .u32 (((SH.at8 S 2 : Int) + (SH.at8 (SH.rnds B S 64) 2 : Int)) % 4294967296), .int .u32 (((SH.at8 S 3 : Int) + (SH.at8 (SH.rnds B S 64) 3 : Int)) % 4294967296), .int .u32 (((SH.at8 S 4 : Int) + (SH.at8 (SH.rnds B S 64) 4 : Int)) % 4294967296), .int .u32 (((SH.at8 S 5 : Int) + (SH.at8 (SH.rnds B S 64) 5 : Int)) % 4294967296), .int .u32 (((SH.at8 S 6 : Int) + (SH.at8 (SH.rnds B S 64) 6 : Int)) % 4294967296), .int .u32 (((SH.at8 S 7 : Int) + (SH.at8 (SH.rnds B S 64) 7 : Int)) % 4294967296)] : Array Value)[i]? = some u ∧ IsU32 u F[i]) := fun i hi => by
            have hFl : F.length = 8 := by rw [hF0]; exact (SH.ok_addS _ _).1
            have e1 : F[i] = SH.at8 (SH.chgS S B) i := by subst hF0; unfold SH.at8; rw [List.getD_eq_getElem?_getD, List.getElem?_eq_getElem hi]; rfl
            have e2 := HT.out i (by omega)
            have e3 : ((F[i] : Nat) : Int) = ((SH.at8 S i : Int) + (SH.at8 (SH.rnds B S 64) i : Int)) % 4294967296 := by rw [e1, e2]; omega
            refine ⟨.int .u32 ((F[i] : Nat) : Int), ?_, rfl⟩
            rw [e3]
            exact eight_rows (SH.at8 S) (SH.at8 (SH.rnds B S 64)) i (by omega)
          have HFL : Hid (F.length = 8 ∧ 8 ≤ 1000000) := ⟨by rw [hF0]; exact (SH.ok_addS _ _).1, by omega⟩
          clear HT hN3 hN0 hF0 hK HN2 HA2 HO HNS HAS HBS HOK HBL HOK2
          generalize SH.at8 (SH.rnds B S 64) 0 = t0 at *
          generalize SH.at8 (SH.rnds B S 64) 1 = t1 at *
          generalize SH.at8 (SH.rnds B S 64) 2 = t2 at *
          generalize SH.at8 (SH.rnds B S 64) 3 = t3 at *
          generalize SH.at8 (SH.rnds B S 64) 4 = t4 at *
          generalize SH.at8 (SH.rnds B S 64) 5 = t5 at *
          generalize SH.at8 (SH.rnds B S 64) 6 = t6 at *
          generalize SH.at8 (SH.rnds B S 64) 7 = t7 at *
          generalize SH.at8 S 0 = s0 at *
          generalize SH.at8 S 1 = s1 at *
          generalize SH.at8 S 2 = s2 at *
          generalize SH.at8 S 3 = s3 at *
          generalize SH.at8 S 4 = s4 at *
          generalize SH.at8 S 5 = s5 at *
          generalize SH.at8 S 6 = s6 at *
          generalize SH.at8 S 7 = s7 at *
          go_wp2_with fail
          refine wp_region_stage [211, 212, 213, 214, 215, 216, 217, 218, 219, 220, 221, 222, 223, 224, 225, 226, 227, 228, 229, 230, 231, 232, 233, 234, 235, 236, 237, 238, 239, 240, 241, 242, 243, 244, 245, 246, 247, 248, 249, 250, 251, 6] [[], [0], [1], [], [2, 3], [], [5], [6], [], [7, 8], [], [10], [11], [], [12, 13], [], [15], [16], [], [17, 18], [], [20], [21], [], [22, 23], [], [25], [26], [], [27, 28], [], [30], [31], [], [32, 33], [], [35], [36], [], [37, 38], [4, 9, 14, 19, 24, 29, 34, 39], [40]] [] [0, 0, 0, 0, 0, 0, 0, 0, 0, 0, 0, 0, 0, 0, 0, 0, 0, 0, 0, 0, 0, 0, 0, 0, 0, 0, 0, 0, 0, 0, 0, 0, 0, 0, 0, 0, 0, 0, 0, 0, 0, 0] [] (chg24 bn on cn N F s0 s1 s2 s3 s4 s5 s6 s7 t0 t1 t2 t3 t4 t5 t6 t7) (fun w w' => Keeps w w') (fun _ _ w' => Keeps wr w') (by kernel_rfl) (by kernel_rfl) (by kernel_rfl) (by kernel_rfl) (by kernel_rfl) (by kernel_rfl) (by kernel_rfl) ?_ ?_ ?_ ?_ ?_ ?_ ?_
          · exact fun i v w w' c h => chg24_keeps i v w w' c h
          · exact fun w => keeps_refl w
          · exact fun i s vs w h => by cases h
          · refine ⟨?_, ?_, ?_, ?_, ?_, ?_, ?_, ?_, ?_, ?_, ?_, ?_, ?_, ?_, ?_, ?_, ?_, ?_, ?_, ?_, ?_, ?_, ?_, ?_, ?_, ?_, ?_, ?_, ?_, ?_, ?_, ?_, ?_, ?_, ?_, ?_, ?_, ?_, ?_, ?_, ?_, ?_, trivial⟩
            · exact fun g b h => by (cases h)
            · exact fun g b h => by (cases h)
            · exact fun g b h => by (cases h)
            · exact fun g b h => by (cases h)
            · exact fun g b h => by (cases h)
            · exact fun g b h => by (cases h)
            · exact fun g b h => by (cases h)
            · exact fun g b h => by (cases h)
            · exact fun g b h => by (cases h)
            · exact fun g b h => by (cases h)
            · exact fun g b h => by (cases h)
            · exact fun g b h => by (cases h)
            · exact fun g b h => by (cases h)
            · exact fun g b h => by (cases h)
            · exact fun g b h => by (cases h)
            · exact fun g b h => by (cases h)
            · exact fun g b h => by (cases h)
            · exact fun g b h => by (cases h)
            · exact fun g b h => by (cases h)
            · exact fun g b h => by (cases h)
            · exact fun g b h => by (cases h)
            · exact fun g b h => by (cases h)
            · exact fun g b h => by (cases h)
            · exact fun g b h => by (cases h)
            · exact fun g b h => by (cases h)
            · exact fun g b h => by (cases h)
            · exact fun g b h => by (cases h)
            · exact fun g b h => by (cases h)
            · exact fun g b h => by (cases h)
            · exact fun g b h => by (cases h)
            · exact fun g b h => by (cases h)
            · exact fun g b h => by (cases h)
            · exact fun g b h => by (cases h)
            · exact fun g b h => by (cases h)
            · exact fun g b h => by (cases h)
            · exact fun g b h => by (cases h)
            · exact fun g b h => by (cases h)
            · exact fun g b h => by (cases h)
            · exact fun g b h => by (cases h)
            · exact fun g b h => by (cases h)
            · exact fun g b h => by (cases h)
            · exact fun g b h => by (cases h)
          · exact fun _ _ => keeps_refl wr
          · refine ⟨?_, ?_, ?_, ?_, ?_, ?_, ?_, ?_, ?_, ?_, ?_, ?_, ?_, ?_, ?_, ?_, ?_, ?_, ?_, ?_, ?_, ?_, ?_, ?_, ?_, ?_, ?_, ?_, ?_, ?_, ?_, ?_, ?_, ?_, ?_, ?_, ?_, ?_, ?_, ?_, ?_, ?_, trivial⟩
            · intro _ a w1 vs hI ho hn hu K hK
              have e0 : a.tmps[0]? = some (.slice (some ⟨bn, on, none⟩) 8 cn) := ho 0 rfl
              clear hn ho hu
              go_simp
              exact hK _ _ (keeps_refl _) hI rfl
            · intro _ a w1 vs hI ho hn hu K hK
              obtain ⟨e211, g211⟩ : a.tmps[211]? = some (vs 0) ∧ vs 0 = .slice (some ⟨bn, on, none⟩) 8 cn := hn 0 (by decide)
              rw [g211] at e211
              clear g211
              clear hn ho hu
              go_simp
              exact hK _ _ (keeps_refl _) hI rfl
            · intro _ a w1 vs hI ho hn hu K hK
              obtain ⟨e212, g212⟩ : a.tmps[212]? = some (vs 1) ∧ vs 1 = .pointer (some ⟨bn, on, none⟩) := hn 1 (by decide)
              rw [g212] at e212
              clear g212
              clear hn ho hu
              have c := keeps_cell hI n0
              go_simp
              exact hK _ _ (keeps_refl _) hI rfl
            · intro _ a w1 vs hI ho hn hu K hK
              have e11 : a.tmps[11]? = some (.int .u32 (t0 : Int)) := ho 11 rfl
              clear hn ho hu
              go_simp
              exact hK _ _ (keeps_refl _) hI rfl
            · intro _ a w1 vs hI ho hn hu K hK
              obtain ⟨e213, g213⟩ : a.tmps[213]? = some (vs 2) ∧ vs 2 = .int .u32 (s0 : Int) := hn 2 (by decide)
              rw [g213] at e213
              clear g213
              obtain ⟨e214, g214⟩ : a.tmps[214]? = some (vs 3) ∧ vs 3 = .int .u32 (t0 : Int) := hn 3 (by decide)
              rw [g214] at e214
              clear g214
              clear hn ho hu
              go_simp
              exact hK _ _ (keeps_refl _) hI rfl
            · intro _ a w1 vs hI ho hn hu K hK
              have e0 : a.tmps[0]? = some (.slice (some ⟨bn, on, none⟩) 8 cn) := ho 0 rfl
              clear hn ho hu
              go_simp
              exact hK _ _ (keeps_refl _) hI rfl
            · intro _ a w1 vs hI ho hn hu K hK
              obtain ⟨e216, g216⟩ : a.tmps[216]? = some (vs 5) ∧ vs 5 = .slice (some ⟨bn, on, none⟩) 8 cn := hn 5 (by decide)
              rw [g216] at e216
              clear g216
              clear hn ho hu
              go_simp
              exact hK _ _ (keeps_refl _) hI rfl
            · intro _ a w1 vs hI ho hn hu K hK
              obtain ⟨e217, g217⟩ : a.tmps[217]? = some (vs 6) ∧ vs 6 = .pointer (some ⟨bn, on + 1, none⟩) := hn 6 (by decide)
              rw [g217] at e217
              clear g217
              clear hn ho hu
              have c := keeps_cell hI n1
              go_simp
              exact hK _ _ (keeps_refl _) hI rfl
            · intro _ a w1 vs hI ho hn hu K hK
              have e12 : a.tmps[12]? = some (.int .u32 (t1 : Int)) := ho 12 rfl
              clear hn ho hu
              go_simp
              exact hK _ _ (keeps_refl _) hI rfl
            · intro _ a w1 vs hI ho hn hu K hK
              obtain ⟨e218, g218⟩ : a.tmps[218]? = some (vs 7) ∧ vs 7 = .int .u32 (s1 : Int) := hn 7 (by decide)
              rw [g218] at e218
              clear g218
              obtain ⟨e219, g219⟩ : a.tmps[219]? = some (vs 8) ∧ vs 8 = .int .u32 (t1 : Int) := hn 8 (by decide)
              rw [g219] at e219
              clear g219
              clear hn ho hu
              go_simp
              exact hK _ _ (keeps_refl _) hI rfl
            · intro _ a w1 vs hI ho hn hu K hK
              have e0 : a.tmps[0]? = some (.slice (some ⟨bn, on, none⟩) 8 cn) := ho 0 rfl
              clear hn ho hu
              go_simp
              exact hK _ _ (keeps_refl _) hI rfl
            · intro _ a w1 vs hI ho hn hu K hK
              obtain ⟨e221, g221⟩ : a.tmps[221]? = some (vs 10) ∧ vs 10 = .slice (some ⟨bn, on, none⟩) 8 cn := hn 10 (by decide)
              rw [g221] at e221
              clear g221
              clear hn ho hu
              go_simp
              exact hK _ _ (keeps_refl _) hI rfl
            · intro _ a w1 vs hI ho hn hu K hK
              obtain ⟨e222, g222⟩ : a.tmps[222]? = some (vs 11) ∧ vs 11 = .pointer (some ⟨bn, on + 2, none⟩) := hn 11 (by decide)
              rw [g222] at e222
              clear g222
              clear hn ho hu
              have c := keeps_cell hI n2
              go_simp
              exact hK _ _ (keeps_refl _) hI rfl
            · intro _ a w1 vs hI ho hn hu K hK
              have e13 : a.tmps[13]? = some (.int .u32 (t2 : Int)) := ho 13 rfl
              clear hn ho hu
              go_simp
              exact hK _ _ (keeps_refl _) hI rfl
            · intro _ a w1 vs hI ho hn hu K hK
              obtain ⟨e223, g223⟩ : a.tmps[223]? = some (vs 12) ∧ vs 12 = .int .u32 (s2 : Int) := hn 12 (by decide)
              rw [g223] at e223
              clear g223
              obtain ⟨e224, g224⟩ : a.tmps[224]? = some (vs 13) ∧ vs 13 = .int .u32 (t2 : Int) := hn 13 (by decide)
              rw [g224] at e224
              clear g224
              clear hn ho hu
              go_simp
              exact hK _ _ (keeps_refl _) hI rfl
            · intro _ a w1 vs hI ho hn hu K hK
              have e0 : a.tmps[0]? = some (.slice (some ⟨bn, on, none⟩) 8 cn) := ho 0 rfl
              clear hn ho hu
              go_simp
              exact hK _ _ (keeps_refl _) hI rfl
            · intro _ a w1 vs hI ho hn hu K hK
              obtain ⟨e226, g226⟩ : a.tmps[226]? = some (vs 15) ∧ vs 15 = .slice (some ⟨bn, on, none⟩) 8 cn := hn 15 (by decide)
              rw [g226] at e226
              clear g226
              clear hn ho hu
              go_simp
              exact hK _ _ (keeps_refl _) hI rfl
            · intro _ a w1 vs hI ho hn hu K hK
              obtain ⟨e227, g227⟩ : a.tmps[227]? = some (vs 16) ∧ vs 16 = .pointer (some ⟨bn, on + 3, none⟩) := hn 16 (by decide)
              rw [g227] at e227
              clear g227
              clear hn ho hu
              have c := keeps_cell hI n3
              go_simp
              exact hK _ _ (keeps_refl _) hI rfl
            · intro _ a w1 vs hI ho hn hu K hK
              have e14 : a.tmps[14]? = some (.int .u32 (t3 : Int)) := ho 14 rfl
              clear hn ho hu
              go_simp
              exact hK _ _ (keeps_refl _) hI rfl
            · intro _ a w1 vs hI ho hn hu K hK
              obtain ⟨e228, g228⟩ : a.tmps[228]? = some (vs 17) ∧ vs 17 = .int .u32 (s3 : Int) := hn 17 (by decide)
              rw [g228] at e228
              clear g228
              obtain ⟨e229, g229⟩ : a.tmps[229]? = some (vs 18) ∧ vs 18 = .int .u32 (t3 : Int) := hn 18 (by decide)
              rw [g229] at e229
              clear g229
              clear hn ho hu
              go_simp
              exact hK _ _ (keeps_refl _) hI rfl
            · intro _ a w1 vs hI ho hn hu K hK
              have e0 : a.tmps[0]? = some (.slice (some ⟨bn, on, none⟩) 8 cn) := ho 0 rfl
              clear hn ho hu
              go_simp
              exact hK _ _ (keeps_refl _) hI rfl
            · intro _ a w1 vs hI ho hn hu K hK
              obtain ⟨e231, g231⟩ : a.tmps[231]? = some (vs 20) ∧ vs 20 = .slice (some ⟨bn, on, none⟩) 8 cn := hn 20 (by decide)
              rw [g231] at e231
              clear g231
              clear hn ho hu
              go_simp
              exact hK _ _ (keeps_refl _) hI rfl
            · intro _ a w1 vs hI ho hn hu K hK
              obtain ⟨e232, g232⟩ : a.tmps[232]? = some (vs 21) ∧ vs 21 = .pointer (some ⟨bn, on + 4, none⟩) := hn 21 (by decide)
              rw [g232] at e232
              clear g232
              clear hn ho hu
              have c := keeps_cell hI n4
              go_simp
              exact hK _ _ (keeps_refl _) hI rfl
            · intro _ a w1 vs hI ho hn hu K hK
              have e15 : a.tmps[15]? = some (.int .u32 (t4 : Int)) := ho 15 rfl
              clear hn ho hu
              go_simp
              exact hK _ _ (keeps_refl _) hI rfl
            · intro _ a w1 vs hI ho hn hu K hK
              obtain ⟨e233, g233⟩ : a.tmps[233]? = some (vs 22) ∧ vs 22 = .int .u32 (s4 : Int) := hn 22 (by decide)
              rw [g233] at e233
              clear g233
              obtain ⟨e234, g234⟩ : a.tmps[234]? = some (vs 23) ∧ vs 23 = .int .u32 (t4 : Int) := hn 23 (by decide)
              rw [g234] at e234
              clear g234
              clear hn ho hu
              go_simp
              exact hK _ _ (keeps_refl _) hI rfl
            · intro _ a w1 vs hI ho hn hu K hK
              have e0 : a.tmps[0]? = some (.slice (some ⟨bn, on, none⟩) 8 cn) := ho 0 rfl
              clear hn ho hu
              go_simp
              exact hK _ _ (keeps_refl _) hI rfl
            · intro _ a w1 vs hI ho hn hu K hK
              obtain ⟨e236, g236⟩ : a.tmps[236]? = some (vs 25) ∧ vs 25 = .slice (some ⟨bn, on, none⟩) 8 cn := hn 25 (by decide)
              rw [g236] at e236
              clear g236
              clear hn ho hu
              go_simp
              exact hK _ _ (keeps_refl _) hI rfl
            · intro _ a w1 vs hI ho hn hu K hK
              obtain ⟨e237, g237⟩ : a.tmps[237]? = some (vs 26) ∧ vs 26 = .pointer (some ⟨bn, on + 5, none⟩) := hn 26 (by decide)
              rw [g237] at e237
              clear g237
              clear hn ho hu
              have c := keeps_cell hI n5
              go_simp
              exact hK _ _ (keeps_refl _) hI rfl
            · intro _ a w1 vs hI ho hn hu K hK
              have e16 : a.tmps[16]? = some (.int .u32 (t5 : Int)) := ho 16 rfl
              clear hn ho hu
              go_simp
              exact hK _ _ (keeps_refl _) hI rfl
            · intro _ a w1 vs hI ho hn hu K hK
              obtain ⟨e238, g238⟩ : a.tmps[238]? = some (vs 27) ∧ vs 27 = .int .u32 (s5 : Int) := hn 27 (by decide)
              rw [g238] at e238
              clear g238
              obtain ⟨e239, g239⟩ : a.tmps[239]? = some (vs 28) ∧ vs 28 = .int .u32 (t5 : Int) := hn 28 (by decide)
              rw [g239] at e239
              clear g239
              clear hn ho hu
              go_simp
              exact hK _ _ (keeps_refl _) hI rfl
            · intro _ a w1 vs hI ho hn hu K hK
              have e0 : a.tmps[0]? = some (.slice (some ⟨bn, on, none⟩) 8 cn) := ho 0 rfl
              clear hn ho hu
              go_simp
              exact hK _ _ (keeps_refl _) hI rfl
            · intro _ a w1 vs hI ho hn hu K hK
              obtain ⟨e241, g241⟩ : a.tmps[241]? = some (vs 30) ∧ vs 30 = .slice (some ⟨bn, on, none⟩) 8 cn := hn 30 (by decide)
              rw [g241] at e241
              clear g241
              clear hn ho hu
              go_simp
              exact hK _ _ (keeps_refl _) hI rfl
            · intro _ a w1 vs hI ho hn hu K hK
              obtain ⟨e242, g242⟩ : a.tmps[242]? = some (vs 31) ∧ vs 31 = .pointer (some ⟨bn, on + 6, none⟩) := hn 31 (by decide)
              rw [g242] at e242
              clear g242
              clear hn ho hu
              have c := keeps_cell hI n6
              go_simp
              exact hK _ _ (keeps_refl _) hI rfl
            · intro _ a w1 vs hI ho hn hu K hK
              have e17 : a.tmps[17]? = some (.int .u32 (t6 : Int)) := ho 17 rfl
              clear hn ho hu
              go_simp
              exact hK _ _ (keeps_refl _) hI rfl
            · intro _ a w1 vs hI ho hn hu K hK
              obtain ⟨e243, g243⟩ : a.tmps[243]? = some (vs 32) ∧ vs 32 = .int .u32 (s6 : Int) := hn 32 (by decide)
              rw [g243] at e243
              clear g243
              obtain ⟨e244, g244⟩ : a.tmps[244]? = some (vs 33) ∧ vs 33 = .int .u32 (t6 : Int) := hn 33 (by decide)
              rw [g244] at e244
              clear g244
              clear hn ho hu
              go_simp
              exact hK _ _ (keeps_refl _) hI rfl
            · intro _ a w1 vs hI ho hn hu K hK
              have e0 : a.tmps[0]? = some (.slice (some ⟨bn, on, none⟩) 8 cn) := ho 0 rfl
              clear hn ho hu
              go_simp
              exact hK _ _ (keeps_refl _) hI rfl
            · intro _ a w1 vs hI ho hn hu K hK
              obtain ⟨e246, g246⟩ : a.tmps[246]? = some (vs 35) ∧ vs 35 = .slice (some ⟨bn, on, none⟩) 8 cn := hn 35 (by decide)
              rw [g246] at e246
              clear g246
              clear hn ho hu
              go_simp
              exact hK _ _ (keeps_refl _) hI rfl
            · intro _ a w1 vs hI ho hn hu K hK
              obtain ⟨e247, g247⟩ : a.tmps[247]? = some (vs 36) ∧ vs 36 = .pointer (some ⟨bn, on + 7, none⟩) := hn 36 (by decide)
              rw [g247] at e247
              clear g247
              clear hn ho hu
              have c := keeps_cell hI n7
              go_simp
              exact hK _ _ (keeps_refl _) hI rfl
            · intro _ a w1 vs hI ho hn hu K hK
              have e18 : a.tmps[18]? = some (.int .u32 (t7 : Int)) := ho 18 rfl
              clear hn ho hu
              go_simp
              exact hK _ _ (keeps_refl _) hI rfl
            · intro _ a w1 vs hI ho hn hu K hK
              obtain ⟨e248, g248⟩ : a.tmps[248]? = some (vs 37) ∧ vs 37 = .int .u32 (s7 : Int) := hn 37 (by decide)
              rw [g248] at e248
              clear g248
              obtain ⟨e249, g249⟩ : a.tmps[249]? = some (vs 38) ∧ vs 38 = .int .u32 (t7 : Int) := hn 38 (by decide)
              rw [g249] at e249
              clear g249
              clear hn ho hu
              go_simp
              exact hK _ _ (keeps_refl _) hI rfl
            · intro _ a w1 vs hI ho hn hu K hK
              obtain ⟨e215, g215⟩ : a.tmps[215]? = some (vs 4) ∧ vs 4 = .int .u32 (((s0 : Int) + (t0 : Int)) % 4294967296) := hn 4 (by decide)
              rw [g215] at e215
              clear g215
              obtain ⟨e220, g220⟩ : a.tmps[220]? = some (vs 9) ∧ vs 9 = .int .u32 (((s1 : Int) + (t1 : Int)) % 4294967296) := hn 9 (by decide)
              rw [g220] at e220
              clear g220
              obtain ⟨e225, g225⟩ : a.tmps[225]? = some (vs 14) ∧ vs 14 = .int .u32 (((s2 : Int) + (t2 : Int)) % 4294967296) := hn 14 (by decide)
              rw [g225] at e225
              clear g225
              obtain ⟨e230, g230⟩ : a.tmps[230]? = some (vs 19) ∧ vs 19 = .int .u32 (((s3 : Int) + (t3 : Int)) % 4294967296) := hn 19 (by decide)
              rw [g230] at e230
              clear g230
              obtain ⟨e235, g235⟩ : a.tmps[235]? = some (vs 24) ∧ vs 24 = .int .u32 (((s4 : Int) + (t4 : Int)) % 4294967296) := hn 24 (by decide)
              rw [g235] at e235
              clear g235
              obtain ⟨e240, g240⟩ : a.tmps[240]? = some (vs 29) ∧ vs 29 = .int .u32 (((s5 : Int) + (t5 : Int)) % 4294967296) := hn 29 (by decide)
              rw [g240] at e240
              clear g240
              obtain ⟨e245, g245⟩ : a.tmps[245]? = some (vs 34) ∧ vs 34 = .int .u32 (((s6 : Int) + (t6 : Int)) % 4294967296) := hn 34 (by decide)
              rw [g245] at e245
              clear g245
              obtain ⟨e250, g250⟩ : a.tmps[250]? = some (vs 39) ∧ vs 39 = .int .u32 (((s7 : Int) + (t7 : Int)) % 4294967296) := hn 39 (by decide)
              rw [g250] at e250
              clear g250
              clear hn ho hu
              go_simp
              exact hK _ _ (kal _ _) (Keeps.trans hI (kal _ _)) (by exact own_litG w1 _ 81 F N (HSZ.out _ hI) (by exact HFL.out) HFE.out)
            · intro _ a w1 vs hI ho hn hu K hK
              obtain ⟨e251, g251⟩ : a.tmps[251]? = some (vs 40) ∧ OwnG N 81 IsU32 w1.heap (vs 40) F := hn 40 (by decide)
              clear hn ho hu
              go_simp
              exact hK _ _ (keeps_refl _) hI g251
          · intro vs w4 hI hG
            have HO4 : Hid (OwnG N 81 IsU32 w4.heap (vs 41) F) := hG 41 (by decide)
            have HK4 := Lib.hid (HK.out.trans hI)
            clear hG hI
            simp only [setAll, Nat.zero_add, Nat.reduceAdd, List.setIfInBounds_toArray, List.set_cons_zero, List.set_cons_succ]
            generalize vs 0 = y0 at *
            generalize vs 1 = y1 at *
            generalize vs 2 = y2 at *
            generalize vs 3 = y3 at *
            generalize vs 4 = y4 at *
            generalize vs 5 = y5 at *
            generalize vs 6 = y6 at *
            generalize vs 7 = y7 at *
            generalize vs 8 = y8 at *
            generalize vs 9 = y9 at *
            generalize vs 10 = y10 at *
            generalize vs 11 = y11 at *
            generalize vs 12 = y12 at *
            generalize vs 13 = y13 at *
            generalize vs 14 = y14 at *
            generalize vs 15 = y15 at *
            generalize vs 16 = y16 at *
            generalize vs 17 = y17 at *
            generalize vs 18 = y18 at *
            generalize vs 19 = y19 at *
            generalize vs 20 = y20 at *
            generalize vs 21 = y21 at *
            generalize vs 22 = y22 at *
            generalize vs 23 = y23 at *
            generalize vs 24 = y24 at *
            generalize vs 25 = y25 at *
            generalize vs 26 = y26 at *
            generalize vs 27 = y27 at *
            generalize vs 28 = y28 at *
            generalize vs 29 = y29 at *
            generalize vs 30 = y30 at *
            generalize vs 31 = y31 at *
            generalize vs 32 = y32 at *
            generalize vs 33 = y33 at *
            generalize vs 34 = y34 at *
            generalize vs 35 = y35 at *
            generalize vs 36 = y36 at *
            generalize vs 37 = y37 at *
            generalize vs 38 = y38 at *
            generalize vs 39 = y39 at *
            generalize vs 40 = y40 at *
            generalize vs 41 = y41 at *
            go_wp2_with fail
            go_ret
            exact ⟨_, rfl, by rw [← HN0.out, ← HF0.out]; exact HO4.out, HK4.out⟩
end Go.Proofs.Yteandjophamipaa
