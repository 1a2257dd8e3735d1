/- The walk of (*sha.Hash).change. -/
import Derived.Test.YteandjophamipaaShaWords
import Derived.Deep.MidRow
namespace Go.Proofs.Yteandjophamipaa
open Go.RowKit
theorem HashC.range {w : World} {b : Nat} {n : List Nat} {vr : Value} {tot : Nat} {vo : Value} (c : HashC w.heap b n vr tot vo) (hn : n.length = 8) : w.rangeAt b 0 (n.map fun (x : Nat) => Value.int .u32 (x : Int)) := fun j v hj => by
  obtain ⟨h1, h2⟩ := List.getElem?_eq_some_iff.1 hj
  rw [List.length_map] at h1
  have h3 := c.now j (by omega)
  rw [← cell_of] at h3
  rw [Nat.zero_add, h3, ← h2, List.getElem_map, List.getD_eq_getElem?_getD, List.getElem?_eq_getElem h1]; rfl
def xN (s4 s5 s6 s7 k w : Nat) : Nat := (s7 + SH.bs1 s4 + SH.ch s4 s5 s6 + k + w) % 4294967296
def yN (s0 s1 s2 : Nat) : Nat := (SH.bs0 s0 + SH.maj s0 s1 s2) % 4294967296
theorem max_xor (x : Nat) (h : x < 4294967296) : bits .xor .u32 IntKind.u32.max (x : Int) = ((4294967295 - x : Nat) : Int) := by
  have e : IntKind.u32.max = ((4294967295 : Nat) : Int) := rfl
  rw [e, xor_u32 _ _ (by omega) h]
  congr 1
  have h1 := BitVec.toNat_not (x := BitVec.ofNat 32 x)
  rw [← BitVec.allOnes_xor, BitVec.toNat_xor, BitVec.toNat_allOnes, BitVec.toNat_ofNat, Nat.mod_eq_of_lt h] at h1
  exact h1
theorem x_bits (s4 s5 s6 s7 k w : Nat) (h4 : s4 < 4294967296) (h5 : s5 < 4294967296) (h6 : s6 < 4294967296) :
    ((s7 : Int) + bits .xor .u32 (bits .xor .u32 (SH.rotr s4 6 : Int) (SH.rotr s4 11 : Int)) (SH.rotr s4 25 : Int) + bits .xor .u32 (bits .and .u32 (s4 : Int) (s5 : Int)) (bits .and .u32 (bits .xor .u32 IntKind.u32.max (s4 : Int)) (s6 : Int)) + (k : Int) + (w : Int)) % 4294967296 = (xN s4 s5 s6 s7 k w : Int) := by
  rw [max_xor s4 h4, xor_u32 _ _ (SH.rotr_lt 6 h4) (SH.rotr_lt 11 h4), xor_u32 _ _ (xor_lt (SH.rotr_lt 6 h4) (SH.rotr_lt 11 h4)) (SH.rotr_lt 25 h4), and_u32 _ _ h4 h5, and_u32 _ _ (by omega) h6, xor_u32 _ _ (and_lt h4) (and_lt (by omega))]
  unfold xN SH.bs1 SH.ch
  generalize SH.rotr s4 6 ^^^ SH.rotr s4 11 ^^^ SH.rotr s4 25 = a
  generalize s4 &&& s5 ^^^ 4294967295 - s4 &&& s6 = b
  omega
theorem y_bits (s0 s1 s2 : Nat) (h0 : s0 < 4294967296) (h1 : s1 < 4294967296) (h2 : s2 < 4294967296) :
    (bits .xor .u32 (bits .xor .u32 (SH.rotr s0 2 : Int) (SH.rotr s0 13 : Int)) (SH.rotr s0 22 : Int) + bits .xor .u32 (bits .xor .u32 (bits .and .u32 (s0 : Int) (s1 : Int)) (bits .and .u32 (s0 : Int) (s2 : Int))) (bits .and .u32 (s1 : Int) (s2 : Int))) % 4294967296 = (yN s0 s1 s2 : Int) := by
  rw [xor_u32 _ _ (SH.rotr_lt 2 h0) (SH.rotr_lt 13 h0), xor_u32 _ _ (xor_lt (SH.rotr_lt 2 h0) (SH.rotr_lt 13 h0)) (SH.rotr_lt 22 h0), and_u32 _ _ h0 h1, and_u32 _ _ h0 h2, and_u32 _ _ h1 h2, xor_u32 _ _ (and_lt h0) (and_lt h0), xor_u32 _ _ (xor_lt (and_lt h0) (and_lt h0)) (and_lt h1)]
  unfold yN SH.bs0 SH.maj
  generalize SH.rotr s0 2 ^^^ SH.rotr s0 13 ^^^ SH.rotr s0 22 = a
  generalize s0 &&& s1 ^^^ s0 &&& s2 ^^^ s1 &&& s2 = b
  omega
theorem xN_lt (s4 s5 s6 s7 k w : Nat) : xN s4 s5 s6 s7 k w < 4294967296 := Nat.mod_lt _ (by decide)
theorem yN_lt (s0 s1 s2 : Nat) : yN s0 s1 s2 < 4294967296 := Nat.mod_lt _ (by decide)
theorem rnd_row (x y s0 s1 s2 s3 s4 s5 s6 : Nat) : (#[.int .u32 (((x : Int) + (y : Int)) % 4294967296), .int .u32 (s0 : Int), .int .u32 (s1 : Int), .int .u32 (s2 : Int), .int .u32 (((s3 : Int) + (x : Int)) % 4294967296), .int .u32 (s4 : Int), .int .u32 (s5 : Int), .int .u32 (s6 : Int)] : Array Value) =
    arrV [(x + y) % 4294967296, s0, s1, s2, (s3 + x) % 4294967296, s4, s5, s6] := by
  have e : ∀ a b : Nat, ((a : Int) + (b : Int)) % 4294967296 = (((a + b) % 4294967296 : Nat) : Int) := fun a b => by omega
  rw [e, e]; rfl
/-- The first k numbers with those of the rounds added. -/
def addTo (s t : List Nat) (k : Nat) : List Nat := (List.range 8).map fun i => if i < k then (SH.at8 s i + SH.at8 t i) % 4294967296 else SH.at8 s i
theorem addTo_zero (s t : List Nat) (h : s.length = 8) : addTo s t 0 = s := by
  apply List.ext_getElem?
  intro i
  unfold addTo SH.at8
  rw [List.getElem?_map]
  rcases Nat.lt_or_ge i 8 with h1 | h1
  · rw [List.getElem?_range h1, Option.map_some, if_neg (by omega), List.getD_eq_getElem?_getD, List.getElem?_eq_getElem (by omega)]; rfl
  · rw [List.getElem?_eq_none (by simpa using h1), List.getElem?_eq_none (by omega)]; rfl
theorem addTo_length (s t : List Nat) (k : Nat) : (addTo s t k).length = 8 := by unfold addTo; simp
theorem addTo_at (s t : List Nat) {i k : Nat} (h : i < 8) : (addTo s t k).getD i 0 = if i < k then (SH.at8 s i + SH.at8 t i) % 4294967296 else SH.at8 s i := by
  unfold addTo
  rw [List.getD_eq_getElem?_getD, List.getElem?_map, List.getElem?_range h]; rfl
theorem addTo_succ (s t : List Nat) {k : Nat} (h : k < 8) : addTo s t (k + 1) = (addTo s t k).set k (((addTo s t k).getD k 0 + t.getD k 0) % 4294967296) := by
  have e0 : (addTo s t k).getD k 0 = SH.at8 s k := by rw [addTo_at s t h, if_neg (Nat.lt_irrefl k)]
  rw [e0]
  apply List.ext_getElem?
  intro i
  rw [List.getElem?_set, addTo_length]
  rcases Nat.lt_or_ge i 8 with h1 | h1
  · by_cases e : k = i
    · subst e
      rw [if_pos rfl, if_pos h1]
      unfold addTo
      rw [List.getElem?_map, List.getElem?_range h1, Option.map_some, if_pos (Nat.lt_succ_self k)]; rfl
    · rw [if_neg e]
      unfold addTo
      rw [List.getElem?_map, List.getElem?_range h1, List.getElem?_map, List.getElem?_range h1, Option.map_some, Option.map_some]
      congr 1
      by_cases h2 : i < k
      · rw [if_pos h2, if_pos (Nat.lt_succ_of_lt h2)]
      · rw [if_neg h2, if_neg (fun x => by omega)]
  · rw [List.getElem?_eq_none (by rw [addTo_length]; exact h1), if_neg (fun x => by omega), List.getElem?_eq_none (by rw [addTo_length]; exact h1)]
theorem addTo_all (s t : List Nat) : addTo s t 8 = SH.addS s t := by
  unfold addTo SH.addS
  refine List.map_congr_left fun i hi => ?_
  have := List.mem_range.1 hi
  rw [if_pos this]
theorem Chg.own {B : Nat} {w w' : World} (h : Chg (fun b => b = B ∨ w.heap.size ≤ b) w w') : Chg (fun b => b = B) w w' := h.mono fun b hb e => by
  have : b = B ∨ w.heap.size ≤ b := e
  show b = B; omega
set_option maxRecDepth 100000 in
set_option maxHeartbeats 4000000 in
theorem change_any (bh bk off c : Nat) (n : List Nat) (vr : Value) (tot : Nat) (br or qr : Nat) (l : List UInt8) (w : World) (hl : l.length = 64) (hb : RowAt w.heap (.slice (some ⟨bk, off, none⟩) 64 c) l)
    (hh : HashC w.heap bh n vr tot (.slice (some ⟨br, or, none⟩) 64 qr)) (hn : SH.Ok8 n) (hr : SeqAt IsU32 w.heap (.slice (some ⟨br, or, none⟩) 64 qr) SH.KL) :
    Calls Try.prog 70 #[.pointer (some ⟨bh, 0, none⟩), .slice (some ⟨bk, off, none⟩) 64 c] w fun e w' => e = .returned (.tuple #[]) ∧ HashC w'.heap bh (SH.chgS n l) vr tot (.slice (some ⟨br, or, none⟩) 64 qr) ∧ Chg (fun b => b = bh) w w' := by
  have HL := Lib.hid hl
  have HB := Lib.hid hb
  have HH := Lib.hid hh
  have HN := Lib.hid hn
  have HR := Lib.hid hr
  have hbh := hh.lt
  clear hl hb hh hn hr
  go_enter Try.func70, Try.ntmps70
  go_wp2_with fail
  refine Calls.mono (words_any bk off c l w HL.out HB.out) ?_
  rintro e w1 ⟨rfl, hk⟩
  have HW1 := Lib.hid hk
  clear hk
  have h1z := HW1.out.size
  have HA0 : Hid (ArrU (w1.alloc (.cells (arrV (List.replicate 64 0)) 105)).heap w1.heap.size 105 (List.replicate 64 0)) := ArrU.new w1 _ _
  have HS64 : Hid ((Try.prog.info? 105).map (·.size) = some (arrV (SH.sched l 64)).size) := by show _ = _; rw [arrV_size, SH.sched_length]; kernel_rfl
  have HS8 : Hid ((Try.prog.info? 82).map (·.size) = some (n.map fun (x : Nat) => Value.int .u32 (x : Int)).length) := by show _ = _; rw [List.length_map, HN.out.1]; kernel_rfl
  -- body
  obtain ⟨w2, hw2⟩ : ∃ w2, w2 = (w1.alloc (.cells #[.int .u32 0, .int .u32 0, .int .u32 0, .int .u32 0, .int .u32 0, .int .u32 0, .int .u32 0, .int .u32 0, .int .u32 0, .int .u32 0, .int .u32 0, .int .u32 0, .int .u32 0, .int .u32 0, .int .u32 0, .int .u32 0, .int .u32 0, .int .u32 0, .int .u32 0, .int .u32 0, .int .u32 0, .int .u32 0, .int .u32 0, .int .u32 0, .int .u32 0, .int .u32 0, .int .u32 0, .int .u32 0, .int .u32 0, .int .u32 0, .int .u32 0, .int .u32 0, .int .u32 0, .int .u32 0, .int .u32 0, .int .u32 0, .int .u32 0, .int .u32 0, .int .u32 0, .int .u32 0, .int .u32 0, .int .u32 0, .int .u32 0, .int .u32 0, .int .u32 0, .int .u32 0, .int .u32 0, .int .u32 0, .int .u32 0, .int .u32 0, .int .u32 0, .int .u32 0, .int .u32 0, .int .u32 0, .int .u32 0, .int .u32 0, .int .u32 0, .int .u32 0, .int .u32 0, .int .u32 0, .int .u32 0, .int .u32 0, .int .u32 0, .int .u32 0] 105)).setRow w1.heap.size (arrV (SH.sched l 64)) := ⟨_, rfl⟩
  have HA2 : Hid (ArrU w2.heap w1.heap.size 105 (SH.sched l 64)) := by rw [hw2]; exact HA0.out.row _
  have HC2 : Hid (Chg (fun b => b = w1.heap.size) w1 w2) := by rw [hw2]; exact ((Chg.refl _ w1).alloc _).setRow (fun h => absurd h (by simp)) _
  have s2 : w2.heap.size = w1.heap.size + 1 := by rw [hw2]; simp
  have HK2 : Hid (Keeps w w2) := ((Kept.any (T := fun b => w.heap.size ≤ b) HW1.out).trans (HC2.out.mono fun b _ e => by show w.heap.size ≤ b; omega)).keeps fun b h1 h2 => by omega
  have HH2 := Lib.hid (HH.out.keeps HK2.out)
  have HA3 : Hid (ArrU (w2.alloc (.cells (arrV (List.replicate 8 0)) 82)).heap w2.heap.size 82 (List.replicate 8 0)) := ArrU.new w2 _ _
  have S2 := Lib.hid s2
  clear s2
  go_wp2_with (first
    | (refine wpList_store_row rfl 105 (.tmp 4) (.tmp 13) rfl w1.heap.size (arrV (SH.sched l 64)) rfl rfl 105 (arrV (List.replicate 64 0)) HA0.out HS64.out (by rw [arrV_size, arrV_size, SH.sched_length]; rfl) (arrV_one _) ?_; rw [← hw2]; clear hw2)
    | (refine wpList_load_mid rfl 82 (.tmp 16) rfl bh 0 rfl _ _ (HH2.out.range HN.out.1) Try.underlying82 rfl HS8.out ?_)
    | (refine wpList_store_row rfl 82 (.tmp 5) (.tmp 17) rfl w2.heap.size (arrV n) rfl rfl 82 (arrV (List.replicate 8 0)) HA3.out HS8.out (by rw [arrV_size, arrV_size, HN.out.1]; rfl) (arrV_one _) ?_))
  obtain ⟨w3, hw3⟩ : ∃ w3, w3 = (w2.alloc (.cells #[.int .u32 0, .int .u32 0, .int .u32 0, .int .u32 0, .int .u32 0, .int .u32 0, .int .u32 0, .int .u32 0] 82)).setRow w2.heap.size (arrV n) := ⟨_, rfl⟩
  rw [← hw3]
  have HA5 : Hid (ArrU w3.heap w2.heap.size 82 (SH.rnds l n 0)) := by rw [hw3]; exact HA3.out.row _
  have HC3 : Hid (Chg (fun b => b = w2.heap.size) w2 w3) := by rw [hw3]; exact ((Chg.refl _ w2).alloc _).setRow (fun h => absurd h (by simp)) _
  have h2z : w1.heap.size < w2.heap.size := by have := S2.out; omega
  have h3z := HC3.out.size
  have HK3 : Hid (Keeps w2 w3) := HC3.out.keeps fun b h1 h2 => by omega
  have HA4 := Lib.hid (HA2.out.keeps HK3.out)
  have HH3 := Lib.hid (HH2.out.keeps HK3.out)
  have HR3 : Hid (SeqAt IsU32 w3.heap (.slice (some ⟨br, or, none⟩) 64 qr) SH.KL) := SeqAt.keeps HR.out (HK2.out.trans HK3.out)
  have HKW : Hid (Keeps w w3) := HK2.out.trans HK3.out
  have hbr : br < w2.heap.size := by
    obtain ⟨u, h1, _⟩ := seq_at HR.out (i := 0) (by decide)
    have := cell_lt h1
    omega
  clear hw3 HA2 HA3 HA0 HC2 HC3
  go_loopw [18] (fun i wr => ∃ k : Nat, k ≤ 64 ∧ i = .int .i64 k ∧ Hid (ArrU wr.heap w2.heap.size 82 (SH.rnds l n k)) ∧ Hid (Chg (fun b => b = w2.heap.size) w3 wr)) (fun i _ => 64 - (intOf i).toNat)
  case atStart => exact ⟨0, by omega, rfl, HA5, Chg.refl _ _⟩
  case round =>
    obtain ⟨k, hk, rfl, hA, hC⟩ := hrel
    have HOK := Lib.hid (SH.ok_rnds l HN.out k)
    by_cases hlt : k < 64
    · have i1 : (k : Int) < 64 := by omega
      have hcell : ∀ i, i < 8 → wr.cell? ⟨w2.heap.size, i, none⟩ = some (.int .u32 ((SH.rnds l n k).getD i 0 : Int)) := fun i hi => hA.out.cell (by rw [HOK.out.1]; exact hi)
      have c0 := hcell 0 (by omega)
      have c1 := hcell 1 (by omega)
      have c2 := hcell 2 (by omega)
      have c3 := hcell 3 (by omega)
      have c4 := hcell 4 (by omega)
      have c5 := hcell 5 (by omega)
      have c6 := hcell 6 (by omega)
      have c7 := hcell 7 (by omega)
      have l0 : (SH.rnds l n k).getD 0 0 < 4294967296 := HOK.out.2 0
      have l1 : (SH.rnds l n k).getD 1 0 < 4294967296 := HOK.out.2 1
      have l2 : (SH.rnds l n k).getD 2 0 < 4294967296 := HOK.out.2 2
      have l3 : (SH.rnds l n k).getD 3 0 < 4294967296 := HOK.out.2 3
      have l4 : (SH.rnds l n k).getD 4 0 < 4294967296 := HOK.out.2 4
      have l5 : (SH.rnds l n k).getD 5 0 < 4294967296 := HOK.out.2 5
      have l6 : (SH.rnds l n k).getD 6 0 < 4294967296 := HOK.out.2 6
      have l7 : (SH.rnds l n k).getD 7 0 < 4294967296 := HOK.out.2 7
      have hHR := HH3.out.chg hC.out (by omega)
      have cr : wr.cell? ⟨bh, 10, none⟩ = some (.slice (some ⟨br, or, none⟩) 64 qr) := by rw [cell_of]; exact hHR.roots
      have cK : wr.cell? ⟨br, or + k, none⟩ = some (.int .u32 (SH.KL.getD k 0 : Int)) := by
        obtain ⟨u, h1, h2⟩ := seq_at HR3.out (i := k) hlt
        have h3 : u = .int .u32 (SH.KL.getD k 0 : Int) := by
          have : u = .int .u32 (SH.KL[k] : Int) := h2
          rw [this, List.getD_eq_getElem?_getD, List.getElem?_eq_getElem (show k < SH.KL.length from hlt)]; rfl
        rw [cell_of] at h1 ⊢
        rw [h3] at h1
        exact cellH_chg hC.out h1 (by omega)
      have cW : wr.cell? ⟨w1.heap.size, k, none⟩ = some (.int .u32 (SH.wAt l k : Int)) := (HA4.out.chg hC.out (by omega)).cell (by rw [SH.sched_length]; exact hlt)
      have lK := SH.KL_lt k
      have lW := SH.wAt_lt l k
      have HX := Lib.hid (x_bits _ _ _ ((SH.rnds l n k).getD 7 0) (SH.KL.getD k 0) (SH.wAt l k) l4 l5 l6)
      have HY := Lib.hid (y_bits _ _ _ l0 l1 l2)
      have HS : Hid (SH.rnds l n (k + 1) = [(xN ((SH.rnds l n k).getD 4 0) ((SH.rnds l n k).getD 5 0) ((SH.rnds l n k).getD 6 0) ((SH.rnds l n k).getD 7 0) (SH.KL.getD k 0) (SH.wAt l k) + yN ((SH.rnds l n k).getD 0 0) ((SH.rnds l n k).getD 1 0) ((SH.rnds l n k).getD 2 0)) % 4294967296, (SH.rnds l n k).getD 0 0, (SH.rnds l n k).getD 1 0, (SH.rnds l n k).getD 2 0, ((SH.rnds l n k).getD 3 0 + xN ((SH.rnds l n k).getD 4 0) ((SH.rnds l n k).getD 5 0) ((SH.rnds l n k).getD 6 0) ((SH.rnds l n k).getD 7 0) (SH.KL.getD k 0) (SH.wAt l k)) % 4294967296, (SH.rnds l n k).getD 4 0, (SH.rnds l n k).getD 5 0, (SH.rnds l n k).getD 6 0]) := rfl
      clear hcell hHR
      generalize SH.KL.getD k 0 = vK at *
      generalize SH.wAt l k = vW at *
      generalize (SH.rnds l n k).getD 0 0 = s0 at *
      generalize (SH.rnds l n k).getD 1 0 = s1 at *
      generalize (SH.rnds l n k).getD 2 0 = s2 at *
      generalize (SH.rnds l n k).getD 3 0 = s3 at *
      generalize (SH.rnds l n k).getD 4 0 = s4 at *
      generalize (SH.rnds l n k).getD 5 0 = s5 at *
      generalize (SH.rnds l n k).getD 6 0 = s6 at *
      generalize (SH.rnds l n k).getD 7 0 = s7 at *
      go_wp2_with fail
      go_quiet (fail)
      go_wp2_with fail
      go_quiet ((first | (go_at_call_of 76 (Value.int .i64 6); refine Calls.mono (turn_any s4 6 _ l4 (by omega) (by omega)) ?_; rintro e w' ⟨rfl, rfl⟩; exact ⟨rfl, _, rfl⟩) | (go_at_call_of 76 (Value.int .i64 11); refine Calls.mono (turn_any s4 11 _ l4 (by omega) (by omega)) ?_; rintro e w' ⟨rfl, rfl⟩; exact ⟨rfl, _, rfl⟩) | (go_at_call_of 76 (Value.int .i64 25); refine Calls.mono (turn_any s4 25 _ l4 (by omega) (by omega)) ?_; rintro e w' ⟨rfl, rfl⟩; exact ⟨rfl, _, rfl⟩)))
      go_wp2_with fail
      rw [HX.out]
      have lX := xN_lt s4 s5 s6 s7 vK vW
      have lY := yN_lt s0 s1 s2
      generalize xN s4 s5 s6 s7 vK vW = x at *
      clear HX
      go_quiet ((first | (go_at_call_of 76 (Value.int .i64 2); refine Calls.mono (turn_any s0 2 _ l0 (by omega) (by omega)) ?_; rintro e w' ⟨rfl, rfl⟩; exact ⟨rfl, _, rfl⟩) | (go_at_call_of 76 (Value.int .i64 13); refine Calls.mono (turn_any s0 13 _ l0 (by omega) (by omega)) ?_; rintro e w' ⟨rfl, rfl⟩; exact ⟨rfl, _, rfl⟩) | (go_at_call_of 76 (Value.int .i64 22); refine Calls.mono (turn_any s0 22 _ l0 (by omega) (by omega)) ?_; rintro e w' ⟨rfl, rfl⟩; exact ⟨rfl, _, rfl⟩)))
      rw [HY.out]
      generalize yN s0 s1 s2 = y at *
      clear HY
      have HROW := Lib.hid (rnd_row x y s0 s1 s2 s3 s4 s5 s6)
      go_wp2_with (refine wpList_store_row rfl 82 (.tmp 5) (.tmp 102) rfl w2.heap.size (#[.int .u32 (((x : Int) + (y : Int)) % 4294967296), .int .u32 (s0 : Int), .int .u32 (s1 : Int), .int .u32 (s2 : Int), .int .u32 (((s3 : Int) + (x : Int)) % 4294967296), .int .u32 (s4 : Int), .int .u32 (s5 : Int), .int .u32 (s6 : Int)] : Array Value) rfl ?c1 82 (arrV (SH.rnds l n k)) ?c2 ?c3 ?c4 ?c5 ?_)
      case c1 => rfl
      case c2 => exact hA.out
      case c3 => kernel_rfl
      case c4 => rw [arrV_size, HOK.out.1]; rfl
      case c5 => rw [HROW.out]; exact arrV_one _
      rw [HROW.out, ← HS.out]
      exact ⟨⟨k + 1, by omega, by go_num, ArrU.row (w := wr.drewN _) hA.out _, Chg.setRow (w := wr.drewN _) hC.out (fun _ => rfl) _⟩, by simp [intOf]; omega⟩
    · obtain rfl : k = 64 := by omega
      go_wp2_with fail
      obtain ⟨wy, rfl⟩ : ∃ wy, wy = wr := ⟨_, rfl⟩
      have HHY := Lib.hid (HH3.out.chg hC.out (by omega))
      have HCY : Hid (Chg (fun b => b = bh) w wy) := ((Kept.any HKW.out).trans (hC.out.mono fun b _ e => by show b = bh ∨ w.heap.size ≤ b; omega)).own
      go_loopw [104] (fun i wr => ∃ k : Nat, k ≤ 8 ∧ i = .int .i64 k ∧ Hid (HashC wr.heap bh (addTo n (SH.rnds l n 64) k) vr tot (.slice (some ⟨br, or, none⟩) 64 qr)) ∧ Hid (Chg (fun b => b = bh) wy wr)) (fun i _ => 8 - (intOf i).toNat)
      case atStart => exact ⟨0, by omega, rfl, by rw [addTo_zero _ _ HN.out.1]; exact HHY, Chg.refl _ _⟩
      case round =>
        obtain ⟨k, hk, rfl, hH, hD⟩ := hrel
        by_cases hlt : k < 8
        · have i1 : (k : Int) < 8 := by omega
          have cn : wr.cell? ⟨w2.heap.size, k, none⟩ = some (.int .u32 ((SH.rnds l n 64).getD k 0 : Int)) := (hA.out.chg hD.out (by omega)).cell (by rw [HOK.out.1]; exact hlt)
          have ch : wr.cell? ⟨bh, k, none⟩ = some (.int .u32 ((addTo n (SH.rnds l n 64) k).getD k 0 : Int)) := by rw [cell_of]; exact hH.out.now k hlt
          have fh : wr.frozen? ⟨bh, k, none⟩ = false := by rw [froz_of]; exact hH.out.free k
          have HT := Lib.hid (addTo_succ n (SH.rnds l n 64) hlt)
          have HTL := Lib.hid (addTo_length n (SH.rnds l n 64) k)
          generalize (SH.rnds l n 64).getD k 0 = a at *
          generalize (addTo n (SH.rnds l n 64) k).getD k 0 = b at *
          go_wp2_with fail
          refine wp_region_tail (List.dropLast _) (List.getLast _ (List.cons_ne_nil _ _)) (List.dropLast_concat_getLast _).symm (by kernel_rfl) (by kernel_rfl) (by kernel_rfl) (by kernel_rfl) rfl (by kernel_rfl) ?_; simp only [List.dropLast_cons_cons, List.dropLast_singleton, List.getLast_cons_cons, List.getLast_singleton]; (repeat (go_big_quiet_step (fail))); refine wpQuiet_nil ?_; intro _ hw1; obtain ⟨nq, hw2⟩ := hw1; subst hw2
          go_wp2_with fail
          have HM : Hid (((b : Int) + (a : Int)) % 4294967296 = (((b + a) % 4294967296 : Nat) : Int)) := by show _ = _; omega
          rw [HM.out]
          exact ⟨⟨k + 1, by omega, by go_num, by rw [HT.out]; exact HashC.setNow (w := wr.drewN _) hH.out hlt HTL.out _, Chg.setCell (w := wr.drewN _) hD.out (p := ⟨bh, k, none⟩) (fun _ => rfl) _⟩, by simp [intOf]; omega⟩
        · obtain rfl : k = 8 := by omega
          have HF : Hid (HashC wr.heap bh (SH.chgS n l) vr tot (.slice (some ⟨br, or, none⟩) 64 qr)) := by
            have e : addTo n (SH.rnds l n 64) 8 = SH.chgS n l := addTo_all _ _
            show HashC _ _ _ _ _ _
            rw [← e]; exact hH.out
          have HCF : Hid (Chg (fun b => b = bh) w wr) := HCY.out.trans hD.out
          clear hH hD HCY HHY
          go_wp2
          go_end0
          exact ⟨rfl, HF.out, HCF.out⟩
end Go.Proofs.Yteandjophamipaa
