/- The walks of the reference's numbers in digits: digits, times, above. -/
import Derived.Test.YteandjophamipaaShaWords
import Derived.Test.YteandjophamipaaShaDig
import Derived.Outline
namespace Go.Proofs.Yteandjophamipaa
open Go.RowKit
/-- An array of numbers of 64 bits, by value. -/
def arrQ (l : List Nat) : Array Value := ⟨l.map fun (x : Nat) => Value.int .u64 (x : Int)⟩
theorem arrQ_size (l : List Nat) : (arrQ l).size = l.length := by unfold arrQ; simp
theorem arrQ_at {l : List Nat} {i : Nat} (h : i < l.length) : (arrQ l)[i]? = some (.int .u64 (l.getD i 0 : Int)) := by
  unfold arrQ
  rw [← Array.getElem?_toList, List.getElem?_map, List.getD_eq_getElem?_getD, List.getElem?_eq_getElem h]; rfl
theorem arrQ_set (l : List Nat) (i x : Nat) : (arrQ l).setIfInBounds i (.int .u64 (x : Int)) = arrQ (l.set i x) := by
  unfold arrQ
  apply Array.toList_inj.1
  simp [List.map_set]
/-- Block b is such an array. -/
def ArrQ (h : Array Obj) (b : Nat) (T : TypeId) (l : List Nat) : Prop := h[b]? = some (.cells (arrQ l) T (0, 0))
theorem ArrQ.cell {w : World} {b : Nat} {T : TypeId} {l : List Nat} (h : ArrQ w.heap b T l) {i : Nat} (hi : i < l.length) : w.cell? ⟨b, i, none⟩ = some (.int .u64 (l.getD i 0 : Int)) := by
  rw [cell_of_row w b i _ _ _ h, arrQ_at hi]
theorem ArrQ.froz {w : World} {b : Nat} {T : TypeId} {l : List Nat} (h : ArrQ w.heap b T l) (i : Nat) : w.frozen? ⟨b, i, none⟩ = false := frozen_of_row w b i _ _ h
theorem ArrQ.lt {h : Array Obj} {b : Nat} {T : TypeId} {l : List Nat} (k : ArrQ h b T l) : b < h.size := (Array.getElem?_eq_some_iff.1 k).1
theorem ArrQ.chg {C : Nat → Prop} {w w' : World} {b : Nat} {T : TypeId} {l : List Nat} (h : ArrQ w.heap b T l) (k : Chg C w w') (hT : ¬ C b) : ArrQ w'.heap b T l := (k.2.2.2.2 b h.lt hT).trans h
theorem ArrQ.keeps {w w' : World} {b : Nat} {T : TypeId} {l : List Nat} (h : ArrQ w.heap b T l) (k : Keeps w w') : ArrQ w'.heap b T l := h.chg (C := fun _ => False) (Kept.any k) fun x => x
theorem ArrQ.set {w : World} {b : Nat} {T : TypeId} {l : List Nat} (h : ArrQ w.heap b T l) (i x : Nat) : ArrQ (w.setCell ⟨b, i, none⟩ (.int .u64 (x : Int))).heap b T (l.set i x) := by
  have := heap_setCell_same w b i (arrQ l) T (.int .u64 (x : Int)) h
  rw [arrQ_set] at this
  exact this
theorem ArrQ.new (w : World) (T : TypeId) (l : List Nat) : ArrQ (w.alloc (.cells (arrQ l) T)).heap w.heap.size T l := heap_alloc_new w _
theorem ArrQ.row {w : World} {b : Nat} {T : TypeId} {l : List Nat} (h : ArrQ w.heap b T l) (m : List Nat) : ArrQ (w.setRow b (arrQ m)).heap b T m := setRow_heap w b _ _ T _ h
theorem arrQ_one (l : List Nat) : (arrQ l).all (·.oneCell') = true :=
  Array.all_eq_true_iff_forall_mem.2 fun v hv => by
    unfold arrQ at hv
    obtain ⟨x, _, rfl⟩ := List.mem_map.1 (show v ∈ l.map _ from by simpa using hv)
    rfl
theorem reps_arrQ (n : Nat) : reps n (.int .u64 0) = arrQ (List.replicate n 0) := by
  unfold reps arrQ
  rw [List.map_replicate]; rfl
theorem ArrQ.seq {w : World} {b : Nat} {l : List Nat} (h : ArrQ w.heap b 88 l) (hl : l.length ≤ 9223372036854775807) (c : Nat) : SeqIn (· = b) 88 IsU64 w.heap (.slice (some ⟨b, 0, none⟩) l.length c) l :=
  ⟨_, c, rfl, hl, fun i hi => ⟨b, 0, .int .u64 (l[i] : Int), rfl, ⟨rfl, typH_of h⟩, by rw [← froz_of]; exact h.froz _, by
    rw [Nat.zero_add, ← cell_of, h.cell hi, List.getD_eq_getElem?_getD, List.getElem?_eq_getElem hi]; rfl, rfl⟩⟩
theorem digits_row (n : Nat) : (#[.int .u64 ((n : Int) % 65536), .int .u64 ((n : Int) / 65536 % 65536), .int .u64 ((n : Int) / 65536 / 65536 % 65536), .int .u64 ((n : Int) / 65536 / 65536 / 65536)] : Array Value) = arrQ (SH.digits n) := by
  have e1 : (n : Int) % 65536 = ((n % 65536 : Nat) : Int) := by omega
  have e2 : (n : Int) / 65536 % 65536 = ((n / 65536 % 65536 : Nat) : Int) := by omega
  have e3 : (n : Int) / 65536 / 65536 % 65536 = ((n / 65536 / 65536 % 65536 : Nat) : Int) := by omega
  have e4 : (n : Int) / 65536 / 65536 / 65536 = ((n / 65536 / 65536 / 65536 : Nat) : Int) := by omega
  rw [e1, e2, e3, e4]; rfl
set_option maxRecDepth 100000 in
set_option maxHeartbeats 4000000 in
theorem digits_any (n : Nat) (w : World) (hn : n < 1099511627776) : Calls Try.prog 80 #[.int .u64 (n : Int)] w fun e w' => ∃ v, e = .returned v ∧ SeqIn (w.heap.size ≤ ·) 88 IsU64 w'.heap v (SH.digits n) ∧ Keeps w w' := by
  have i0 : (0 : Int) ≤ (n : Int) := by omega
  have i1 : (0 : Int) ≤ (n : Int) / 65536 := by omega
  have i2 : (0 : Int) ≤ (n : Int) / 65536 / 65536 := by omega
  have HD := Lib.hid (digits_row n)
  go_enter Try.func80, Try.ntmps80
  go_wp2
  go_ret
  refine ⟨_, rfl, ?_, kal _ _⟩
  rw [HD.out]
  exact ((ArrQ.new w 88 (SH.digits n)).seq (by show 4 ≤ _; decide) 4).mono (fun b hb => by
    have : b = w.heap.size := hb
    rw [this]; exact Nat.le_refl _) fun _ _ x => x
set_option maxRecDepth 100000 in
set_option maxHeartbeats 4000000 in
theorem times_any (va vb : Value) (a b : List Nat) (w : World) (ha : SeqAt IsU64 w.heap va a) (hb : SeqAt IsU64 w.heap vb b) (da : SH.Digs a) (db : SH.Digs b) (la : a.length ≤ 100) (lb : b.length ≤ 100) :
    Calls Try.prog 81 #[va, vb] w fun e w' => ∃ v, e = .returned v ∧ SeqIn (w.heap.size ≤ ·) 88 IsU64 w'.heap v (SH.timesL a b) ∧ Keeps w w' := by
  obtain ⟨pa, ca, rfl⟩ := seq_shape ha
  obtain ⟨pb, cb, rfl⟩ := seq_shape hb
  have HA := Lib.hid ha
  have HB := Lib.hid hb
  have DA := Lib.hid da
  have DB := Lib.hid db
  have hmk : ∀ wx : World, (Instr.makeSlice 86 (.int .i64 ((a.length : Int) + (b.length : Int))) (.int .i64 ((a.length : Int) + (b.length : Int)))).run Try.prog wx = .ok (.slice (some ⟨wx.heap.size, 0, none⟩) (a.length + b.length) (a.length + b.length)) (wx.alloc (.cells (reps (a.length + b.length) (.int .u64 0)) 88)) := fun wx => by
    have := run_mk 86 88 8 (.int .u64 0) Try.underlying86 (by kernel_rfl) rfl (a.length + b.length) (by omega) (by omega) wx
    rwa [Int.natCast_add] at this
  clear ha hb da db
  go_enter Try.func81, Try.ntmps81
  go_wp2_with fail
  obtain ⟨wz, hwz⟩ : ∃ wz, wz = w.alloc (.cells (reps (a.length + b.length) (.int .u64 0)) 88) := ⟨_, rfl⟩
  rw [← hwz]
  have HZ : Hid (ArrQ wz.heap w.heap.size 88 (SH.tOut a b 0)) := by
    rw [hwz, reps_arrQ]; exact ArrQ.new w _ _
  have HK : Hid (Keeps w wz) := by rw [hwz]; exact kal _ _
  have hzz := HK.out.size
  clear hwz hmk
  go_loopw [6] (fun i wr => ∃ k : Nat, k ≤ a.length ∧ i = .int .i64 k ∧ Hid (ArrQ wr.heap w.heap.size 88 (SH.tOut a b k)) ∧ Hid (Keeps w wr)) (fun i _ => a.length - (intOf i).toNat)
  case atStart => exact ⟨0, by omega, rfl, HZ, HK⟩
  case round =>
    obtain ⟨i, hi, rfl, hO, hK⟩ := hrel
    by_cases hlt : i < a.length
    · have i1 : (i : Int) < (a.length : Int) := by omega
      obtain ⟨t1, t2, t3⟩ := SH.tOut_ok DA.out DB.out i (by omega)
      have HT1 := Lib.hid t1
      have HT2 := Lib.hid t2
      have HT3 := Lib.hid t3
      have hx := DA.out i
      have HTS : Hid (SH.tOut a b (i + 1) = (SH.tIn (a.getD i 0) b i (SH.tOut a b i) b.length).1.set (i + b.length) ((SH.tIn (a.getD i 0) b i (SH.tOut a b i) b.length).1.getD (i + b.length) 0 + (SH.tIn (a.getD i 0) b i (SH.tOut a b i) b.length).2)) := rfl
      obtain ⟨ba, oa, ua, rfl, da, ra⟩ := seqD HA.out 0 hlt
      unfold IsU64 at ra
      subst ra
      clear t1 t2 t3
      generalize a.getD i 0 = x at *
      generalize SH.tOut a b i = O at *
      go_wp2_with fail
      obtain ⟨wo, rfl⟩ : ∃ wo : World, wo = wr := ⟨_, rfl⟩
      go_loopw [7, 8] (fun c k wr => ∃ j : Nat, j ≤ b.length ∧ k = .int .i64 j ∧ c = .int .u64 ((SH.tIn x b i O j).2 : Int) ∧ Hid (ArrQ wr.heap w.heap.size 88 (SH.tIn x b i O j).1) ∧ Hid (Keeps w wr)) (fun _ k _ => b.length - (intOf k).toNat)
      case atStart => exact ⟨0, by omega, rfl, rfl, hO, hK⟩
      case round =>
        clear hO hK
        obtain ⟨j, hj, rfl, rfl, hO, hK⟩ := hrel
        obtain ⟨t1, t2, t3⟩ := SH.tIn_ok (i := i) hx DB.out HT1.out j
        by_cases hlj : j < b.length
        · have j1 : (j : Int) < (b.length : Int) := by omega
          have hij : i + j < (SH.tIn x b i O j).1.length := by rw [t3, HT2.out]; omega
          have co := hO.out.cell hij
          have fo := hO.out.froz (i + j)
          have lo := t1 (i + j)
          have cax := keeps_cell hK.out da
          obtain ⟨bb, ob, ub, rfl, db, rb⟩ := seqD (SeqAt.keeps HB.out hK.out) 0 hlj
          unfold IsU64 at rb
          subst rb
          have ly := DB.out j
          have HTI : Hid ((SH.tIn x b i O (j + 1)).1 = (SH.tIn x b i O j).1.set (i + j) (((SH.tIn x b i O j).1.getD (i + j) 0 + x * b.getD j 0 + (SH.tIn x b i O j).2) % 65536) ∧ (SH.tIn x b i O (j + 1)).2 = ((SH.tIn x b i O j).1.getD (i + j) 0 + x * b.getD j 0 + (SH.tIn x b i O j).2) / 65536) := ⟨rfl, rfl⟩
          generalize (SH.tIn x b i O j).2 = c at *
          generalize (SH.tIn x b i O j).1 = L at *
          generalize b.getD j 0 = y at *
          generalize L.getD (i + j) 0 = o at *
          have p0 : 0 ≤ (x : Int) * (y : Int) := by rw [← Int.natCast_mul]; omega
          have p1 : (x : Int) * (y : Int) ≤ 4294836225 := by
            have : x * y ≤ 65535 * 65535 := Nat.mul_le_mul (by omega) (by omega)
            rw [← Int.natCast_mul]; omega
          have HV : Hid ((o : Int) + (x : Int) * (y : Int) + (c : Int) = ((o + x * y + c : Nat) : Int)) := by show _ = _; rw [Int.natCast_add, Int.natCast_add, Int.natCast_mul]
          have hvb : o + x * y + c < 4295032833 := by
            have : x * y ≤ 65535 * 65535 := Nat.mul_le_mul (by omega) (by omega)
            omega
          have nij : ((i : Int) + (j : Int)).toNat = i + j := by omega
          have vij : IntKind.i64.wrap ((i : Int) + (j : Int)) = (i : Int) + (j : Int) := IntWalk.i64_in _ (by omega)
          have mij : 0 ≤ (i : Int) + (j : Int) := by omega
          have qij : (i : Int) + (j : Int) < (a.length : Int) + (b.length : Int) := by omega
          have j0 : (0 : Int) ≤ (j : Int) := by omega
          have i0 : (0 : Int) ≤ (i : Int) := by omega
          clear t1 t2 t3
          go_wp2_with fail
          go_quiet (fail)
          rw [HV.out]
          have HM : Hid (((o + x * y + c : Nat) : Int) % 65536 = (((o + x * y + c) % 65536 : Nat) : Int) ∧ ((o + x * y + c : Nat) : Int) / 65536 = (((o + x * y + c) / 65536 : Nat) : Int)) := by constructor <;> omega
          generalize o + x * y + c = v at *
          go_wp2_with fail
          rw [HM.out.1, HM.out.2]
          exact ⟨⟨j + 1, by omega, by go_num, by rw [HTI.out.2], by rw [HTI.out.1]; exact ArrQ.set (w := wr.drewN nq) hO.out _ _, Kept.setCell (w := wr.drewN nq) hK.out (p := ⟨w.heap.size, i + j, none⟩) (Nat.le_refl _) _⟩, by simp [intOf]; omega⟩
        · obtain rfl : j = b.length := by omega
          have hij : i + b.length < (SH.tIn x b i O b.length).1.length := by rw [t3, HT2.out]; omega
          have co := hO.out.cell hij
          have fo := hO.out.froz (i + b.length)
          have lo := t1 (i + b.length)
          generalize (SH.tIn x b i O b.length).2 = c at *
          generalize (SH.tIn x b i O b.length).1 = L at *
          generalize L.getD (i + b.length) 0 = o at *
          have HV : Hid ((o : Int) + (c : Int) = ((o + c : Nat) : Int)) := by show _ = _; omega
          have nij : ((i : Int) + (b.length : Int)).toNat = i + b.length := by omega
          have mij : 0 ≤ (i : Int) + (b.length : Int) := by omega
          have qij : (i : Int) + (b.length : Int) < (a.length : Int) + (b.length : Int) := by omega
          clear t1 t3 hij
          go_wp2_with fail
          rw [HV.out]
          exact ⟨⟨i + 1, by omega, by go_num, by rw [HTS.out]; exact ArrQ.set (w := wr) hO.out _ _, Kept.setCell (w := wr) hK.out (p := ⟨w.heap.size, i + b.length, none⟩) (Nat.le_refl _) _⟩, by simp [intOf]; omega⟩
    · obtain rfl : i = a.length := by omega
      have HF : Hid (SeqIn (w.heap.size ≤ ·) 88 IsU64 wr.heap (.slice (some ⟨w.heap.size, 0, none⟩) (a.length + b.length) (a.length + b.length)) (SH.timesL a b)) := by
        have hl := (SH.times_ok DA.out DB.out).2
        have := (hO.out.seq (by show (SH.timesL a b).length ≤ _; rw [hl]; omega) (a.length + b.length)).mono (S' := (w.heap.size ≤ ·)) (R' := IsU64) (fun x hx => by
          have : x = w.heap.size := hx
          rw [this]; exact Nat.le_refl _) fun _ _ x => x
        show SeqIn _ _ _ _ _ _
        rw [← hl]; rw [hl]; have e : (SH.tOut a b a.length).length = a.length + b.length := hl
        rwa [e] at this
      clear hO
      go_wp2
      go_ret
      exact ⟨_, rfl, HF.out, hK.out⟩
set_option maxRecDepth 100000 in
set_option maxHeartbeats 4000000 in
theorem above_any (va : Value) (a : List Nat) (n z : Nat) (w : World) (ha : SeqAt IsU64 w.heap va a) (da : SH.Digs a) (la : a.length ≤ 100) (hn : n < 1000) (hz : z + 4 ≤ a.length) :
    Calls Try.prog 82 #[va, .int .u64 (n : Int), .int .i64 (z : Int)] w fun e w' => e = .returned (.bool (decide (n * 65536 ^ z < SH.val a))) ∧ Keeps w w' := by
  obtain ⟨pa, ca, rfl⟩ := seq_shape ha
  have HA := Lib.hid ha
  have DA := Lib.hid da
  have HWL := Lib.hid (SH.want_length (n := n) hz)
  have HWV := Lib.hid (SH.want_val n z a.length)
  have HWO := Lib.hid (SH.want_ok (n := n) (by omega) z a.length)
  clear ha da
  go_enter Try.func82, Try.ntmps82
  go_wp2_with fail
  go_loopw [7] (fun i wr => ∃ j : Nat, j ≤ a.length ∧ i = .int .i64 ((j : Int) - 1) ∧ Hid (a.drop j = (SH.wantL n z a.length).drop j) ∧ Hid (Keeps w wr)) (fun i _ => (intOf i + 1).toNat)
  case atStart => exact ⟨a.length, by omega, rfl, by show _ = _; rw [List.drop_length, List.drop_of_length_le (by rw [HWL.out]; exact Nat.le_refl _)], keeps_refl w⟩
  case round =>
    obtain ⟨j, hj, rfl, hD, hK⟩ := hrel
    cases j with
    | zero =>
      have HF : Hid (decide (n * 65536 ^ z < SH.val a) = false) := by
        show _ = _
        have h0 : a = SH.wantL n z a.length := hD.out
        rw [← HWV.out, ← h0]; exact decide_eq_false (Nat.lt_irrefl _)
      go_wp2
      go_ret
      rw [HF.out]
      exact ⟨rfl, hK.out⟩
    | succ j =>
      have e1 : ((j + 1 : Nat) : Int) - 1 = (j : Int) := by omega
      rw [e1]
      clear e1
      obtain ⟨b0, o0, u0, rfl, d0, r0⟩ := seqD (SeqAt.keeps HA.out hK.out) 0 (show j < a.length by omega)
      unfold IsU64 at r0
      subst r0
      have HWA : Hid ((SH.wantL n z a.length).getD j 0 = if z ≤ j ∧ j < z + 4 then (SH.digits n).getD (j - z) 0 else 0) := SH.want_at n z a.length j
      have HPA : Hid (a.getD j 0 ≠ (SH.wantL n z a.length).getD j 0 → decide (n * 65536 ^ z < SH.val a) = decide ((SH.wantL n z a.length).getD j 0 < a.getD j 0)) := fun hne => by
        rw [← HWV.out]
        exact SH.val_parts DA.out HWO.out (by omega) (by rw [HWL.out]; omega) hD.out hne
      have HEQ : Hid (a.getD j 0 = (SH.wantL n z a.length).getD j 0 → a.drop j = (SH.wantL n z a.length).drop j) := fun he => by
        rw [List.drop_eq_getElem_cons (show j < a.length by omega), List.drop_eq_getElem_cons (show j < (SH.wantL n z a.length).length by rw [HWL.out]; omega), hD.out]
        congr 1
        rw [List.getD_eq_getElem?_getD, List.getD_eq_getElem?_getD, List.getElem?_eq_getElem (show j < a.length by omega), List.getElem?_eq_getElem (show j < (SH.wantL n z a.length).length by rw [HWL.out]; omega)] at he
        exact he
      clear hD
      generalize (SH.wantL n z a.length).getD j 0 = wj at *
      generalize hx : a.getD j 0 = x at *
      have HX := Lib.hid hx
      clear hx
      by_cases hin : z ≤ j ∧ j < z + 4
      · have i1 : decide ((z : Int) ≤ (j : Int)) = true := decide_eq_true (by omega)
        have i2 : decide ((j : Int) < (z : Int) + 4) = true := decide_eq_true (by omega)
        have HWJ : Hid (wj = (SH.digits n).getD (j - z) 0) := by show _ = _; rw [HWA.out, if_pos hin]
        have hjz : j - z < (SH.digits n).length := by show _ < 4; omega
        have n1 : ((j : Int) - (z : Int)).toNat = j - z := by omega
        have m1 : 0 ≤ (j : Int) - (z : Int) := by omega
        have q1 : (j : Int) - (z : Int) < 4 := by omega
        have cax := d0
        go_wp2_with fail
        refine Calls.mono (digits_any n _ (by omega)) ?_
        rintro e w1 ⟨v, rfl, hv, hk⟩
        obtain ⟨pv, qv, e2⟩ := seq_shape (SeqIn.at_ hv)
        have e3 : v = .slice pv 4 qv := e2
        subst e3
        clear e2
        obtain ⟨b1, o1, u1, rfl, d1, r1⟩ := seqD (SeqIn.at_ hv) 0 hjz
        unfold IsU64 at r1
        rw [← HWJ.out] at r1
        subst r1
        have HK1 := Lib.hid (hK.out.trans hk)
        have d01 := keeps_cell hk d0
        clear hv hk d0 cax
        by_cases he : x = wj
        · have b1 : ((x : Int) != (wj : Int)) = false := by rw [bne_eq_false_iff_eq]; omega
          have b2 : ((x : Int) == (wj : Int)) = true := by rw [beq_iff_eq]; omega
          have HN := Lib.hid (HEQ.out he)
          clear he HEQ HPA HWA
          go_wp2_with fail
          exact ⟨⟨j, by omega, rfl, HN, HK1⟩, by simp [intOf]⟩
        · have b1 : ((x : Int) != (wj : Int)) = true := by rw [bne_iff_ne]; omega
          have b2 : ((x : Int) == (wj : Int)) = false := by rw [beq_eq_false_iff_ne]; omega
          have HN := Lib.hid (HPA.out he)
          clear he HEQ HPA HWA
          go_wp2_with fail
          go_ret
          rw [HN.out]
          exact ⟨by simp, HK1.out⟩
      · have hwj : wj = 0 := by rw [HWA.out, if_neg hin]
        subst hwj
        have i1 : (j : Int) < (z : Int) ∨ ((z : Int) ≤ (j : Int) ∧ (z : Int) + 4 ≤ (j : Int)) := by omega
        clear hin
        rcases i1 with i1 | ⟨i1, i2⟩
        all_goals
          by_cases he : x = 0
          · have b1 : ((x : Int) != ((0 : Nat) : Int)) = false := by rw [bne_eq_false_iff_eq]; omega
            have b2 : ((x : Int) == ((0 : Nat) : Int)) = true := by rw [beq_iff_eq]; omega
            have HN := Lib.hid (HEQ.out he)
            clear he HEQ HPA HWA
            go_wp2_with fail
            exact ⟨⟨j, by omega, rfl, HN, hK⟩, by simp [intOf]⟩
          · have b1 : ((x : Int) != ((0 : Nat) : Int)) = true := by rw [bne_iff_ne]; omega
            have b2 : ((x : Int) == ((0 : Nat) : Int)) = false := by rw [beq_eq_false_iff_ne]; omega
            have HN := Lib.hid (HPA.out he)
            clear he HEQ HPA HWA
            go_wp2_with fail
            go_ret
            rw [HN.out]
            exact ⟨by simp, hK.out⟩
end Go.Proofs.Yteandjophamipaa
