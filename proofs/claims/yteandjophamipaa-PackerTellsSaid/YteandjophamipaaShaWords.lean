/- The walk of sha.words. -/
import Derived.Test.YteandjophamipaaShaP
import Derived.Test.YteandjophamipaaTail
import Derived.Laws.Rows
import Derived.Outline
namespace Go.Proofs.Yteandjophamipaa
open Go.RowKit
/-- An array of numbers of 32 bits, by value. -/
def arrV (l : List Nat) : Array Value := ⟨l.map fun (x : Nat) => Value.int .u32 (x : Int)⟩
theorem arrV_size (l : List Nat) : (arrV l).size = l.length := by unfold arrV; simp
theorem arrV_at {l : List Nat} {i : Nat} (h : i < l.length) : (arrV l)[i]? = some (.int .u32 (l.getD i 0 : Int)) := by
  unfold arrV
  rw [← Array.getElem?_toList, List.getElem?_map, List.getD_eq_getElem?_getD, List.getElem?_eq_getElem h]; rfl
theorem arrV_set (l : List Nat) (i x : Nat) : (arrV l).setIfInBounds i (.int .u32 (x : Int)) = arrV (l.set i x) := by
  unfold arrV
  apply Array.toList_inj.1
  simp [List.map_set]
/-- Block b is such an array. -/
def ArrU (h : Array Obj) (b : Nat) (T : TypeId) (l : List Nat) : Prop := h[b]? = some (.cells (arrV l) T (0, 0))
theorem ArrU.cell {w : World} {b : Nat} {T : TypeId} {l : List Nat} (h : ArrU w.heap b T l) {i : Nat} (hi : i < l.length) : w.cell? ⟨b, i, none⟩ = some (.int .u32 (l.getD i 0 : Int)) := by
  rw [cell_of_row w b i _ _ _ h, arrV_at hi]
theorem ArrU.froz {w : World} {b : Nat} {T : TypeId} {l : List Nat} (h : ArrU w.heap b T l) (i : Nat) : w.frozen? ⟨b, i, none⟩ = false := frozen_of_row w b i _ _ h
theorem ArrU.lt {h : Array Obj} {b : Nat} {T : TypeId} {l : List Nat} (k : ArrU h b T l) : b < h.size := (Array.getElem?_eq_some_iff.1 k).1
theorem ArrU.chg {C : Nat → Prop} {w w' : World} {b : Nat} {T : TypeId} {l : List Nat} (h : ArrU w.heap b T l) (k : Chg C w w') (hT : ¬ C b) : ArrU w'.heap b T l := (k.2.2.2.2 b h.lt hT).trans h
theorem ArrU.keeps {w w' : World} {b : Nat} {T : TypeId} {l : List Nat} (h : ArrU w.heap b T l) (k : Keeps w w') : ArrU w'.heap b T l := h.chg (C := fun _ => False) (Kept.any k) fun x => x
theorem ArrU.set {w : World} {b : Nat} {T : TypeId} {l : List Nat} (h : ArrU w.heap b T l) (i x : Nat) : ArrU (w.setCell ⟨b, i, none⟩ (.int .u32 (x : Int))).heap b T (l.set i x) := by
  have := heap_setCell_same w b i (arrV l) T (.int .u32 (x : Int)) h
  rw [arrV_set] at this
  exact this
theorem ArrU.new (w : World) (T : TypeId) (l : List Nat) : ArrU (w.alloc (.cells (arrV l) T)).heap w.heap.size T l := heap_alloc_new w _
theorem Chg.setRow {T : Nat → Prop} {a w : World} (h : Chg T a w) {b : Nat} (hb : b < a.heap.size → T b) (cs : Array Value) : Chg T a (w.setRow b cs) :=
  ⟨h.1, h.2.1, h.2.2.1, by rw [size_setRow]; exact h.size, fun k hk ht => by
    have : ¬ b = k := fun e => ht (by subst e; exact hb hk)
    show (w.heap.modify b _)[k]? = _
    rw [Array.getElem?_modify, if_neg this]; exact h.2.2.2.2 k hk ht⟩
theorem ArrU.row {w : World} {b : Nat} {T : TypeId} {l : List Nat} (h : ArrU w.heap b T l) (m : List Nat) : ArrU (w.setRow b (arrV m)).heap b T m := setRow_heap w b _ _ T _ h
theorem arrV_one (l : List Nat) : (arrV l).all (·.oneCell') = true :=
  Array.all_eq_true_iff_forall_mem.2 fun v hv => by
    unfold arrV at hv
    obtain ⟨x, _, rfl⟩ := List.mem_map.1 (show v ∈ l.map _ from by simpa using hv)
    rfl
/-- The numbers of a block, as far as they are told. -/
def arrW (b : List UInt8) (k : Nat) : List Nat := SH.sched b k ++ List.replicate (64 - k) 0
theorem arrW_length (b : List UInt8) {k : Nat} (h : k ≤ 64) : (arrW b k).length = 64 := by unfold arrW; rw [List.length_append, SH.sched_length, List.length_replicate]; omega
theorem arrW_succ (b : List UInt8) {k : Nat} (h : k < 64) : (arrW b k).set k (SH.nextW b (SH.sched b k) k) = arrW b (k + 1) := by
  unfold arrW
  rw [List.set_append, if_neg (by rw [SH.sched_length]; omega), SH.sched_length, Nat.sub_self, show 64 - k = (64 - (k + 1)) + 1 from by omega, List.replicate_succ, List.set_cons_zero]
  show _ = (SH.sched b k ++ [_]) ++ _
  rw [List.append_assoc]; rfl
theorem arrW_at (b : List UInt8) {i k : Nat} (h : i < k) : (arrW b k).getD i 0 = (SH.sched b k).getD i 0 := by
  unfold arrW
  rw [List.getD_eq_getElem?_getD, List.getElem?_append_left (by rw [SH.sched_length]; exact h), List.getD_eq_getElem?_getD]
theorem arrW_all (b : List UInt8) : arrW b 64 = SH.sched b 64 := by unfold arrW; simp
theorem arrW_zero (b : List UInt8) : arrW b 0 = List.replicate 64 0 := rfl
theorem or_add {a b k : Nat} (hb : b < 2 ^ k) : a * 2 ^ k ||| b = a * 2 ^ k + b := by rw [Nat.mul_comm, Nat.two_pow_add_eq_or_of_lt hb]
theorem be_bits (a b c d : Nat) (ha : a < 256) (hb : b < 256) (hc : c < 256) (hd : d < 256) :
    bits .or .u32 (bits .or .u32 (bits .or .u32 ((a : Int) * 16777216) ((b : Int) * 65536)) ((c : Int) * 256)) (d : Int) = ((a * 16777216 + b * 65536 + c * 256 + d : Nat) : Int) := by
  have e1 : (a : Int) * 16777216 = ((a * 16777216 : Nat) : Int) := by omega
  have e2 : (b : Int) * 65536 = ((b * 65536 : Nat) : Int) := by omega
  have e3 : (c : Int) * 256 = ((c * 256 : Nat) : Int) := by omega
  have h1 : a * 16777216 ||| b * 65536 = a * 16777216 + b * 65536 := or_add (k := 24) (by omega)
  have h2 : a * 16777216 + b * 65536 ||| c * 256 = a * 16777216 + b * 65536 + c * 256 := by
    have := or_add (a := a * 256 + b) (b := c * 256) (k := 16) (by omega)
    have e : (a * 256 + b) * 2 ^ 16 = a * 16777216 + b * 65536 := by omega
    rwa [e] at this
  have h3 : a * 16777216 + b * 65536 + c * 256 ||| d = a * 16777216 + b * 65536 + c * 256 + d := by
    have := or_add (a := a * 65536 + b * 256 + c) (b := d) (k := 8) (by omega)
    have e : (a * 65536 + b * 256 + c) * 2 ^ 8 = a * 16777216 + b * 65536 + c * 256 := by omega
    rwa [e] at this
  rw [e1, e2, e3, or_u32 _ _ (by omega) (by omega), h1, or_u32 _ _ (by omega) (by omega), h2, or_u32 _ _ (by omega) (by omega), h3]
theorem div_shr (x n m : Nat) (h : 2 ^ n = m) : (x : Int) / (m : Int) = ((x >>> n : Nat) : Int) := by
  rw [Nat.shiftRight_eq_div_pow, h, Int.natCast_ediv]
theorem shr_lt {x : Nat} (n : Nat) (h : x < 4294967296) : x >>> n < 4294967296 := Nat.lt_of_le_of_lt (Nat.shiftRight_le _ _) h
theorem xor_lt {x y : Nat} (h : x < 4294967296) (h' : y < 4294967296) : x ^^^ y < 4294967296 := Nat.xor_lt_two_pow (n := 32) h h'
theorem and_lt {x y : Nat} (h : x < 4294967296) : x &&& y < 4294967296 := Nat.lt_of_le_of_lt Nat.and_le_left h
theorem sg0_bits (x : Nat) (h : x < 4294967296) : bits .xor .u32 (bits .xor .u32 (SH.rotr x 7 : Int) (SH.rotr x 18 : Int)) ((x : Int) / 8) = (SH.sg0 x : Int) := by
  have e1 := div_shr x 3 8 rfl
  rw [show ((8 : Nat) : Int) = 8 from rfl] at e1
  rw [e1, xor_u32 _ _ (SH.rotr_lt 7 h) (SH.rotr_lt 18 h), xor_u32 _ _ (xor_lt (SH.rotr_lt 7 h) (SH.rotr_lt 18 h)) (shr_lt 3 h)]; rfl
theorem sg1_bits (x : Nat) (h : x < 4294967296) : bits .xor .u32 (bits .xor .u32 (SH.rotr x 17 : Int) (SH.rotr x 19 : Int)) ((x : Int) / 1024) = (SH.sg1 x : Int) := by
  have e1 := div_shr x 10 1024 rfl
  rw [show ((1024 : Nat) : Int) = 1024 from rfl] at e1
  rw [e1, xor_u32 _ _ (SH.rotr_lt 17 h) (SH.rotr_lt 19 h), xor_u32 _ _ (xor_lt (SH.rotr_lt 17 h) (SH.rotr_lt 19 h)) (shr_lt 10 h)]; rfl
theorem sum4_mod (a b c d : Nat) : ((a : Int) + (b : Int) + (c : Int) + (d : Int)) % 4294967296 = (((a + b + c + d) % 4294967296 : Nat) : Int) := by omega
theorem row_byte {w : World} {bk off n c : Nat} {l : List UInt8} (h : RowAt w.heap (.slice (some ⟨bk, off, none⟩) n c) l) {i : Nat} (hi : i < l.length) : w.cell? ⟨bk, off + i, none⟩ = some (.int .u8 (SH.byteAt l i : Int)) := by
  obtain ⟨u, h1, h2⟩ := seq_at h hi
  rw [h1, h2]
  unfold SH.byteAt
  rw [List.getD_eq_getElem?_getD, List.getElem?_eq_getElem hi]; rfl
set_option maxRecDepth 100000 in
set_option maxHeartbeats 4000000 in
theorem words_any (bk off c : Nat) (l : List UInt8) (w : World) (hl : l.length = 64) (hb : RowAt w.heap (.slice (some ⟨bk, off, none⟩) 64 c) l) :
    Calls Try.prog 75 #[.slice (some ⟨bk, off, none⟩) 64 c] w fun e w' => e = .returned (.agg (arrV (SH.sched l 64))) ∧ Keeps w w' := by
  have HL := Lib.hid hl
  have HB := Lib.hid hb
  clear hl hb
  go_enter Try.func75, Try.ntmps75
  go_wp2_with fail
  obtain ⟨wz, hwz⟩ : ∃ wz, wz = (w.alloc (.cells #[.int .u32 0, .int .u32 0, .int .u32 0, .int .u32 0, .int .u32 0, .int .u32 0, .int .u32 0, .int .u32 0, .int .u32 0, .int .u32 0, .int .u32 0, .int .u32 0, .int .u32 0, .int .u32 0, .int .u32 0, .int .u32 0, .int .u32 0, .int .u32 0, .int .u32 0, .int .u32 0, .int .u32 0, .int .u32 0, .int .u32 0, .int .u32 0, .int .u32 0, .int .u32 0, .int .u32 0, .int .u32 0, .int .u32 0, .int .u32 0, .int .u32 0, .int .u32 0, .int .u32 0, .int .u32 0, .int .u32 0, .int .u32 0, .int .u32 0, .int .u32 0, .int .u32 0, .int .u32 0, .int .u32 0, .int .u32 0, .int .u32 0, .int .u32 0, .int .u32 0, .int .u32 0, .int .u32 0, .int .u32 0, .int .u32 0, .int .u32 0, .int .u32 0, .int .u32 0, .int .u32 0, .int .u32 0, .int .u32 0, .int .u32 0, .int .u32 0, .int .u32 0, .int .u32 0, .int .u32 0, .int .u32 0, .int .u32 0, .int .u32 0, .int .u32 0] 105)).alloc (.cells #[.int .u32 0, .int .u32 0, .int .u32 0, .int .u32 0, .int .u32 0, .int .u32 0, .int .u32 0, .int .u32 0, .int .u32 0, .int .u32 0, .int .u32 0, .int .u32 0, .int .u32 0, .int .u32 0, .int .u32 0, .int .u32 0, .int .u32 0, .int .u32 0, .int .u32 0, .int .u32 0, .int .u32 0, .int .u32 0, .int .u32 0, .int .u32 0, .int .u32 0, .int .u32 0, .int .u32 0, .int .u32 0, .int .u32 0, .int .u32 0, .int .u32 0, .int .u32 0, .int .u32 0, .int .u32 0, .int .u32 0, .int .u32 0, .int .u32 0, .int .u32 0, .int .u32 0, .int .u32 0, .int .u32 0, .int .u32 0, .int .u32 0, .int .u32 0, .int .u32 0, .int .u32 0, .int .u32 0, .int .u32 0, .int .u32 0, .int .u32 0, .int .u32 0, .int .u32 0, .int .u32 0, .int .u32 0, .int .u32 0, .int .u32 0, .int .u32 0, .int .u32 0, .int .u32 0, .int .u32 0, .int .u32 0, .int .u32 0, .int .u32 0, .int .u32 0] 105) := ⟨_, rfl⟩
  rw [← hwz]
  have HA : Hid (ArrU wz.heap w.heap.size 105 (List.replicate 64 0)) := by
    rw [hwz]; exact (ArrU.new w _ (List.replicate 64 0)).keeps (kal _ _)
  have HW : Hid (ArrU wz.heap (w.heap.size + 1) 105 (arrW l 0)) := by
    rw [hwz]
    have := ArrU.new (w.alloc (.cells (arrV (List.replicate 64 0)) 105)) 105 (List.replicate 64 0)
    rwa [show (w.alloc (.cells (arrV (List.replicate 64 0)) 105)).heap.size = w.heap.size + 1 from by simp] at this
  have HK : Hid (Keeps w wz) := by rw [hwz]; exact (kal _ _).trans (kal _ _)
  have hsz := HK.out.size
  have HB2 : Hid (RowAt wz.heap (.slice (some ⟨bk, off, none⟩) 64 c) l) := SeqAt.keeps HB.out HK.out
  have hbk : bk < w.heap.size := cell_lt (row_byte HB.out (i := 0) (by have := HL.out; omega))
  clear hwz
  go_loopw [8] (fun i wr => ∃ k : Nat, k ≤ 16 ∧ i = .int .i64 k ∧ Hid (ArrU wr.heap (w.heap.size + 1) 105 (arrW l k)) ∧ Hid (Chg (fun b => b = w.heap.size + 1) wz wr)) (fun i _ => 16 - (intOf i).toNat)
  case atStart => exact ⟨0, by omega, rfl, HW, Chg.refl _ _⟩
  case round =>
    obtain ⟨k, hk, rfl, hA, hC⟩ := hrel
    by_cases hlt : k < 16
    · have i1 : (k : Int) < 16 := by omega
      have HBR : Hid (∀ i, i < 64 → wr.cell? ⟨bk, off + i, none⟩ = some (.int .u8 (SH.byteAt l i : Int))) := fun i hi => by
        have := row_byte HB2.out (i := i) (by have := HL.out; omega)
        rw [cell_of] at this ⊢
        exact cellH_chg hC.out this (by omega)
      have b0 := HBR.out (4 * k) (by omega)
      have b1 := HBR.out (4 * k + 1) (by omega)
      have b2 := HBR.out (4 * k + 2) (by omega)
      have b3 := HBR.out (4 * k + 3) (by omega)
      have l0 := SH.byteAt_lt l (4 * k)
      have l1 := SH.byteAt_lt l (4 * k + 1)
      have l2 := SH.byteAt_lt l (4 * k + 2)
      have l3 := SH.byteAt_lt l (4 * k + 3)
      have HE := Lib.hid (be_bits _ _ _ _ l0 l1 l2 l3)
      have HN : Hid (SH.nextW l (SH.sched l k) k = SH.byteAt l (4 * k) * 16777216 + SH.byteAt l (4 * k + 1) * 65536 + SH.byteAt l (4 * k + 2) * 256 + SH.byteAt l (4 * k + 3)) := by
        show _ = _
        unfold SH.nextW; rw [if_pos hlt]; rfl
      clear HBR
      generalize SH.byteAt l (4 * k) = x0 at *
      generalize SH.byteAt l (4 * k + 1) = x1 at *
      generalize SH.byteAt l (4 * k + 2) = x2 at *
      generalize SH.byteAt l (4 * k + 3) = x3 at *
      have ck : wr.cell? ⟨w.heap.size + 1, k, none⟩ = some (.int .u32 ((arrW l k).getD k 0 : Int)) := hA.out.cell (by rw [arrW_length l (by omega)]; omega)
      have fk : wr.frozen? ⟨w.heap.size + 1, k, none⟩ = false := hA.out.froz k
      go_wp2_with fail
      refine wp_region_tail (List.dropLast _) (List.getLast _ (List.cons_ne_nil _ _)) (List.dropLast_concat_getLast _).symm (by kernel_rfl) (by kernel_rfl) (by kernel_rfl) (by kernel_rfl) rfl (by kernel_rfl) ?_; simp only [List.dropLast_cons_cons, List.dropLast_singleton, List.getLast_cons_cons, List.getLast_singleton]; (repeat (go_big_quiet_step (fail))); refine wpQuiet_nil ?_; intro _ hw1; obtain ⟨nq, hw2⟩ := hw1; subst hw2
      go_wp2_with fail
      rw [HE.out, ← HN.out]
      exact ⟨⟨k + 1, by omega, by go_num, by rw [← arrW_succ l (by omega)]; exact ArrU.set (w := wr.drewN nq) hA.out _ _, Chg.setCell (w := wr.drewN nq) hC.out (p := ⟨w.heap.size + 1, k, none⟩) (fun _ => rfl) _⟩, by simp [intOf]; omega⟩
    · obtain rfl : k = 16 := by omega
      go_wp2_with fail
      obtain ⟨wy, rfl⟩ : ∃ wy, wy = wr := ⟨_, rfl⟩
      have HCY := hC
      go_loopw [5] (fun i wr => ∃ k : Nat, 16 ≤ k ∧ k ≤ 64 ∧ i = .int .i64 k ∧ Hid (ArrU wr.heap (w.heap.size + 1) 105 (arrW l k)) ∧ Hid (Chg (fun b => b = w.heap.size + 1) wz wr)) (fun i _ => 64 - (intOf i).toNat)
      case atStart => exact ⟨16, by omega, by omega, rfl, hA, hC⟩
      case round =>
        clear hA hC HCY
        obtain ⟨k, hk16, hk, rfl, hA, hC⟩ := hrel
        by_cases hlt : k < 64
        · have i1 : (k : Int) < 64 := by omega
          have i0 : 16 ≤ (k : Int) := by omega
          have hcell : ∀ i, i < 64 → wr.cell? ⟨w.heap.size + 1, i, none⟩ = some (.int .u32 ((arrW l k).getD i 0 : Int)) := fun i hi => hA.out.cell (by rw [arrW_length l (by omega)]; omega)
          have c1 := hcell (k - 15) (by omega)
          have c2 := hcell (k - 2) (by omega)
          have c3 := hcell (k - 16) (by omega)
          have c4 := hcell (k - 7) (by omega)
          have ck := hcell k hlt
          have fk : wr.frozen? ⟨w.heap.size + 1, k, none⟩ = false := hA.out.froz k
          have hlo : ∀ i, i < k → (arrW l k).getD i 0 < 4294967296 := fun i hi => by rw [arrW_at l hi, SH.sched_get l hi]; exact SH.nextW_lt _ _ _
          have l1 := hlo (k - 15) (by omega)
          have l2 := hlo (k - 2) (by omega)
          have l3 := hlo (k - 16) (by omega)
          have l4 := hlo (k - 7) (by omega)
          have HN : Hid (SH.nextW l (SH.sched l k) k = ((arrW l k).getD (k - 16) 0 + (arrW l k).getD (k - 7) 0 + SH.sg0 ((arrW l k).getD (k - 15) 0) + SH.sg1 ((arrW l k).getD (k - 2) 0)) % 4294967296) := by
            show _ = _
            unfold SH.nextW
            rw [if_neg (by omega), arrW_at l (by omega), arrW_at l (by omega), arrW_at l (by omega), arrW_at l (by omega)]
          clear hcell hlo
          generalize (arrW l k).getD (k - 15) 0 = x1 at *
          generalize (arrW l k).getD (k - 2) 0 = x2 at *
          generalize (arrW l k).getD (k - 16) 0 = x3 at *
          generalize (arrW l k).getD (k - 7) 0 = x4 at *
          have HS0 := Lib.hid (sg0_bits x1 l1)
          have HS1 := Lib.hid (sg1_bits x2 l2)
          have HM := Lib.hid (sum4_mod x3 x4 (SH.sg0 x1) (SH.sg1 x2))
          have n1 : ((k : Int) - 15).toNat = k - 15 := by omega
          have n2 : ((k : Int) - 2).toNat = k - 2 := by omega
          have n3 : ((k : Int) - 16).toNat = k - 16 := by omega
          have n4 : ((k : Int) - 7).toNat = k - 7 := by omega
          have m1 : 0 ≤ (k : Int) - 15 := by omega
          have m2 : 0 ≤ (k : Int) - 2 := by omega
          have m3 : 0 ≤ (k : Int) - 16 := by omega
          have m4 : 0 ≤ (k : Int) - 7 := by omega
          have q1 : (k : Int) - 15 < 64 := by omega
          have q2 : (k : Int) - 2 < 64 := by omega
          have q3 : (k : Int) - 16 < 64 := by omega
          have q4 : (k : Int) - 7 < 64 := by omega
          have v1 : IntKind.i64.wrap ((k : Int) - 15) = (k : Int) - 15 := IntWalk.i64_in _ (by omega)
          have v2 : IntKind.i64.wrap ((k : Int) - 2) = (k : Int) - 2 := IntWalk.i64_in _ (by omega)
          have v3 : IntKind.i64.wrap ((k : Int) - 16) = (k : Int) - 16 := IntWalk.i64_in _ (by omega)
          have v4 : IntKind.i64.wrap ((k : Int) - 7) = (k : Int) - 7 := IntWalk.i64_in _ (by omega)
          go_wp2_with fail
          go_quiet (fail)
          go_wp2_with fail
          refine wp_region_tail (List.dropLast _) (List.getLast _ (List.cons_ne_nil _ _)) (List.dropLast_concat_getLast _).symm (by kernel_rfl) (by kernel_rfl) (by kernel_rfl) (by kernel_rfl) rfl (by kernel_rfl) ?_; simp only [List.dropLast_cons_cons, List.dropLast_singleton, List.getLast_cons_cons, List.getLast_singleton]; (repeat (go_big_quiet_step ((first | (go_at_call_of 76 (Value.int .i64 7); refine Calls.mono (turn_any x1 7 _ l1 (by omega) (by omega)) ?_; rintro e w' ⟨rfl, rfl⟩; exact ⟨rfl, _, rfl⟩) | (go_at_call_of 76 (Value.int .i64 18); refine Calls.mono (turn_any x1 18 _ l1 (by omega) (by omega)) ?_; rintro e w' ⟨rfl, rfl⟩; exact ⟨rfl, _, rfl⟩) | (go_at_call_of 76 (Value.int .i64 17); refine Calls.mono (turn_any x2 17 _ l2 (by omega) (by omega)) ?_; rintro e w' ⟨rfl, rfl⟩; exact ⟨rfl, _, rfl⟩) | (go_at_call_of 76 (Value.int .i64 19); refine Calls.mono (turn_any x2 19 _ l2 (by omega) (by omega)) ?_; rintro e w' ⟨rfl, rfl⟩; exact ⟨rfl, _, rfl⟩))))); refine wpQuiet_nil ?_; intro _ hw1; obtain ⟨nq, hw2⟩ := hw1; subst hw2
          go_wp2_with fail
          rw [HS0.out, HS1.out, HM.out, ← HN.out]
          exact ⟨⟨k + 1, by omega, by omega, by go_num, by rw [← arrW_succ l (by omega)]; exact ArrU.set (w := wr.drewN _) hA.out _ _, Chg.setCell (w := wr.drewN _) hC.out (p := ⟨w.heap.size + 1, k, none⟩) (fun _ => rfl) _⟩, by simp [intOf]; omega⟩
        · obtain rfl : k = 64 := by omega
          have HSZ : Hid ((Try.prog.info? 105).map (·.size) = some (arrV (arrW l 64)).size) := by show _ = _; rw [arrV_size, arrW_length l (Nat.le_refl _)]; kernel_rfl
          have HR : Hid (ArrU wr.heap w.heap.size 105 (List.replicate 64 0)) := HA.out.chg hC.out (by omega)
          go_wp2_with (first | (refine wpList_load_row rfl 105 (.tmp 3) rfl (w.heap.size + 1) rfl 105 (arrV (arrW l 64)) (0, 0) _ hA.out Try.underlying105 rfl HSZ.out ?_) | (refine wpList_store_row rfl 105 (.tmp 2) (.tmp 88) rfl w.heap.size (arrV (arrW l 64)) rfl rfl 105 _ HR.out HSZ.out (by rw [arrV_size, arrV_size, arrW_length l (Nat.le_refl _)]; rfl) (arrV_one _) ?_))
          have HE : Hid (ArrU (wr.setRow w.heap.size (arrV (arrW l 64))).heap w.heap.size 105 (SH.sched l 64)) := by rw [← arrW_all l]; exact HR.out.row _
          have HKE : Hid (Keeps w (wr.setRow w.heap.size (arrV (arrW l 64)))) :=
            (Chg.setRow (T := fun b => w.heap.size ≤ b) (((Kept.any HK.out).trans (hC.out.mono fun b _ e => by show w.heap.size ≤ b; omega))) (fun h => absurd h (by omega)) _).keeps fun b h1 h2 => by omega
          exact bodyPost_ret (v := .agg (arrV (SH.sched l 64))) (results_cell_row rfl _ _ w.heap.size 105 (arrV (SH.sched l 64)) (0, 0) _ rfl HE.out Try.underlying105 rfl (by rw [← arrW_all l]; exact HSZ.out)) rfl ⟨rfl, HKE.out⟩
end Go.Proofs.Yteandjophamipaa
