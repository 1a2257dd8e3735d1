/- The walk of the law PathNames. Printed by genpnm.py. -/
import Derived.Test.YtdpfanifagfciaaDoorLawPUp
import Derived.Test.YtdpfanifagfciaaDoorRecCut
namespace Go.Proofs.YtdpfanifagfciaaDoor
open Go.RowKit
attribute [local go_sem ↓] Go.wp_at_zero Go.wp_at_succ
theorem elFile0 : ElemTyK Tryd.prog 44 47 (.agg #[.string ByteArray.empty, .bool false, .string ByteArray.empty]) 3 40 := ⟨Tryd.underlying44, by kernel_rfl, rfl, by decide, by decide⟩
/-- A text, so often. -/
def timesL (s : List UInt8) : Nat → List UInt8
  | 0 => []
  | n + 1 => timesL s n ++ s
def timesT (n : Nat) (s : ByteArray) : ByteArray := strB (timesL s.data.toList n)
theorem timesT_succ (n : Nat) (s : ByteArray) : timesT (n + 1) s = timesT n s ++ s := by
  unfold timesT
  rw [← strB_data s, strB_append, strB_data]; rfl
theorem timesL_length (s : List UInt8) : ∀ n, (timesL s n).length = n * s.length
  | 0 => by simp [timesL]
  | n + 1 => by rw [timesL, List.length_append, timesL_length s n, Nat.add_mul]; omega
theorem timesT_size (n : Nat) (s : ByteArray) : (timesT n s).size = n * s.size := by
  unfold timesT
  rw [strB_size, timesL_length, data_size]
set_option maxRecDepth 100000 in
set_option maxHeartbeats 4000000 in
theorem times_any (n : Nat) (s : ByteArray) (w : World) (h : n * s.size ≤ 1000000) (hn : n ≤ 1000000) (hz : s.size ≤ 1000000) : Calls Tryd.prog 23 #[.int .i64 (n : Int), .string s] w fun e w' => e = .returned (.string (timesT n s)) ∧ w = w' := by
  have HN := Lib.hid h
  clear h
  go_enter Tryd.func23, Tryd.ntmps23
  go_wp2_with fail
  go_loopw [5, 6] (fun v i wr => ∃ k : Nat, k ≤ n ∧ i = .int .i64 k ∧ v = .string (timesT k s) ∧ w = wr) (fun _ i _ => n - (intOf i).toNat)
  case atStart => exact ⟨0, by omega, rfl, rfl, rfl⟩
  case round =>
    obtain ⟨k, hk, rfl, rfl, rfl⟩ := hrel
    by_cases hlt : k < n
    · have hlt64 : (k : Int) < (n : Int) := by omega
      have HS := Lib.hid (timesT_succ k s)
      have hsz : (timesT k s).size + s.size ≤ 1000000 := by
        rw [timesT_size]
        have h1 : (k + 1) * s.size ≤ n * s.size := Nat.mul_le_mul_right _ (by omega)
        have h2 := HN.out
        rw [Nat.add_mul] at h1
        omega
      generalize timesT k s = x at *
      go_wp2_with fail
      exact ⟨⟨k + 1, by omega, by go_num, by rw [HS.out], by first | rfl | trivial⟩, by simp [intOf]; omega⟩
    · obtain rfl : k = n := by omega
      go_wp2_with fail
      go_ret
      exact ⟨rfl, rfl⟩
def badsZ : List ByteArray := [⟨#[]⟩, ⟨#[47, 97]⟩, ⟨#[97, 47]⟩, ⟨#[97, 47, 47, 98]⟩, ⟨#[97, 47, 46]⟩, ⟨#[97, 47, 46, 46]⟩, ⟨#[46]⟩, ⟨#[46, 46]⟩, ⟨#[97, 32, 98]⟩, ⟨#[97, 127]⟩, ⟨#[97, 32]⟩, ⟨#[97, 195, 169]⟩, timesT 33 ⟨#[97]⟩, (timesT 49 ⟨#[97, 47]⟩).extract 0 97]
theorem badsZ_len : badsZ.length = 14 := rfl
theorem badsZ_no : ∀ x ∈ badsZ, mayPath x.data.toList = false := by decide +kernel
/-- One of the many files. -/
def fileM (i : Nat) : FileR := ⟨strB [102, UInt8.ofNat (97 + i / 16), UInt8.ofNat (97 + i % 16)], false, ⟨#[]⟩⟩
def manyF (k : Nat) : List FileR := (List.range k).map fileM
theorem manyF_succ (k : Nat) : manyF (k + 1) = manyF k ++ [fileM k] := by unfold manyF; rw [List.range_succ, List.map_append]; rfl
theorem manyF_len (k : Nat) : (manyF k).length = k := by unfold manyF; simp
theorem manyF_tree : treeF (manyF 256) = true := by decide +kernel
theorem manyF_small (k : Nat) : SmallF (manyF k) := smallF_of fun x hx => by
  unfold manyF at hx
  obtain ⟨i, _, rfl⟩ := List.mem_map.1 hx
  exact ⟨by show (strB _).size ≤ _; rw [strB_size]; simp, Nat.zero_le _⟩
def zF (X : ByteArray) : FileR := ⟨⟨#[122]⟩, false, X⟩
theorem tree_z (X : ByteArray) : treeF [zF X] = decide (X.size ≤ 16384) := by
  have h1 : mayPath (zF X).P = true := by show mayPath [122] = true; decide +kernel
  have h2 : upIs (zF X).p = false := by show upIs ⟨#[122]⟩ = false; decide +kernel
  have h3 : fAt [zF X] 0 = zF X := rfl
  have h4 : okF [zF X] 0 = decide (X.size ≤ 16384) := by
    unfold okF
    rw [h3, h1, h2]
    first | (simp [zF]; done) | (simp [zF]; rfl)
  show (decide (1 ≤ 256) && okTo [zF X] (0 + 1)) = _
  rw [okTo_succ, h4]; rfl
theorem tree_257 (l : List FileR) (h : l.length = 257) : treeF l = false := by unfold treeF; rw [h]; rfl
def fB : FileR := ⟨⟨#[98]⟩, false, ⟨#[]⟩⟩
def fAx : FileR := ⟨⟨#[97]⟩, true, ⟨#[120]⟩⟩
def fA_ : FileR := ⟨⟨#[97, 45, 98]⟩, false, ⟨#[]⟩⟩
theorem own_sliceN {w : World} {base : Nat} {E : TypeId} {v : Value} {k n : Nat} {us : List Value} (h : w.ownsRow base E k v n us) : ∃ p c, v = .slice p n c := by
  rcases h.2 with ⟨rfl, hn⟩ | ⟨g, cap, cur, rfl, _⟩
  · exact ⟨none, 0, by rw [hn]⟩
  · exact ⟨_, _, rfl⟩
theorem cells_al1 (w : World) (o : Obj) (cs : Array Value) (t : TypeId) : ∀ j (h : j < cs.toList.length), ((w.alloc o).alloc (.cells cs t)).cell? ⟨w.heap.size + 1, j, none⟩ = some cs.toList[j] := fun j h => by
  have := World.cell?_alloc_new (w.alloc o) cs t j
  rw [World.size_alloc] at this
  rw [this, ← Array.getElem?_toList, List.getElem?_eq_getElem h]
section
variable {P : Program} {t e : TypeId} {z : Value} {k bytes : Nat} (E : ElemTyK P t e z k bytes) {w : World} {ops : Array Oper} {rest : List Oper} {o : Oper} {a : Act} {Q : Exit → Act → World → Prop}
include E
/-- 'append(s, x)' behind an open guard. -/
theorem wp_appr1_g (hgd : Region.wanted o (yielded ops a.tmps) = true) (s x : Operand) (ho : o.op = .call { callee := .builtin .append, args := #[s, x], argTypes := #[t, t] })
    (base : Nat) (v : Value) (n : Nat) (xs : List Value) (hs : a.eval s = v) (hown : w.ownsRow base e k v n xs) (b : Nat) (u : List Value) (hx : a.eval x = .slice (some ⟨b, 0, none⟩) 1 1)
    (hu : u.length = k) (hc : ∀ j (h : j < u.length), w.cell? ⟨b, j, none⟩ = some u[j]) (h1 : ∀ y ∈ u, y.oneCell' = true)
    (hlen : (n + 1) * bytes ≤ 140737488355328) (hbase : base ≤ w.heap.size)
    (h : ∀ v' w', w'.ownsRow base e k v' (n + 1) (xs ++ u) → Chg (fun q => v.ownBlock = some q) w w' → wpList P ops Q rest (a.put o.dst v') w') : wpList P ops Q (o :: rest) a w := by
  refine wpList_step fun K hK => ?_
  rw [if_pos hgd]
  obtain ⟨i, h2, h3, h4, h5⟩ := info_parts E.hi
  have hb := E.hb
  have hle : n + 1 ≤ (n + 1) * bytes := Nat.le_mul_of_pos_right _ hb
  obtain ⟨v', w', hr, h6, h7, _⟩ := run_append_own (P := P) (w := w) base t o.type e i z k bytes E.ht h2 h3 h4 h5 E.hz E.hk v n xs hown ⟨b, 0, none⟩ 1 1 u (by rw [hu, Nat.one_mul]) (fun j y hj => by
    obtain ⟨hj1, hj2⟩ := List.getElem?_eq_some_iff.1 hj
    have hadd : (⟨b, 0, none⟩ : Addr).add j = ⟨b, j, none⟩ := by unfold Addr.add; split <;> simp_all
    rw [hadd, hc j hj1, hj2]) h1 (by unfold maxLen; omega) hlen hbase
  unfold Oper.wp
  simp [execOp, ho, resolve, invoke, builtin, hs, hx, hr, Result.andThen]
  exact hK _ _ (h v' w' h6 ((Chg.refl _ w).grown h7 fun q hq _ => hq))
end
theorem pn1 : mayPath (⟨#[46, 46, 46]⟩ : ByteArray).data.toList = true := by decide +kernel
theorem pn2 : mayPath (timesT 32 ⟨#[97]⟩).data.toList = true := by decide +kernel
theorem pn3 : mayPath (timesT 48 ⟨#[97, 47]⟩ ++ ⟨#[98]⟩).data.toList = false := by decide +kernel
theorem pn4 : mayPath (timesT 47 ⟨#[97, 47]⟩ ++ ⟨#[98, 98]⟩).data.toList = true := by decide +kernel
theorem pn5 : treeF [] = true := by decide +kernel
theorem pn6 : treeF [fB, fAf] = false := by decide +kernel
theorem pn7 : treeF [fAf, fAf] = false := by decide +kernel
theorem pn8 : treeF [fAx] = false := by decide +kernel
theorem pn9 : treeF [fA, fA_, fAb] = true := by decide +kernel
theorem smallF_dec {l : List FileR} (h : (l.all fun x => decide (x.p.size ≤ 100000) && decide (x.t.size ≤ 100000)) = true) : SmallF l := smallF_of fun x hx => by
  have := List.all_eq_true.1 h x hx
  rw [Bool.and_eq_true, decide_eq_true_eq, decide_eq_true_eq] at this
  exact this
set_option maxRecDepth 100000 in
set_option maxHeartbeats 8000000 in
theorem pathnames_any (w : World) : Calls Tryd.prog 6 #[] w fun e w' => e = .returned (.bool true) ∧ Keeps w w' := by
  have HT33 := Lib.hid (fun wx => times_any 33 ⟨#[97]⟩ wx (by decide) (by decide) (by decide))
  have HT49 := Lib.hid (fun wx => times_any 49 ⟨#[97, 47]⟩ wx (by decide) (by decide) (by decide))
  have hz49 : (timesT 49 ⟨#[97, 47]⟩).size = 98 := by rw [timesT_size]; rfl
  go_enter Tryd.func6, Tryd.ntmps6
  go_wp2_with fail
  refine Calls.mono (HT33.out _) ?_
  rintro e w1 ⟨rfl, rfl⟩
  go_wp2_with fail
  refine Calls.mono (HT49.out _) ?_
  rintro e w1 ⟨rfl, rfl⟩
  have h97 : (97 : Int) ≤ ((timesT 49 ⟨#[97, 47]⟩).size : Int) := by rw [hz49]; decide
  have HB := Lib.hid (textsAt_lit w badsZ 14 14 rfl (by decide))
  have HK0 : Hid (Keeps w (w.alloc (.cells ⟨badsZ.map (Value.string ·)⟩ 9))) := kal _ _
  go_wp2_with fail
  rw [show (w.alloc (.cells ⟨badsZ.map (Value.string ·)⟩ 9)) = _ from rfl] at HB HK0
  generalize hw0 : w.alloc (.cells #[.string ⟨#[]⟩, .string ⟨#[47, 97]⟩, .string ⟨#[97, 47]⟩, .string ⟨#[97, 47, 47, 98]⟩, .string ⟨#[97, 47, 46]⟩, .string ⟨#[97, 47, 46, 46]⟩, .string ⟨#[46]⟩, .string ⟨#[46, 46]⟩, .string ⟨#[97, 32, 98]⟩, .string ⟨#[97, 127]⟩, .string ⟨#[97, 32]⟩, .string ⟨#[97, 195, 169]⟩, .string (timesT 33 ⟨#[97]⟩), .string ((timesT 49 ⟨#[97, 47]⟩).extract 0 97)] 9) = w0
  have HB : Hid (TextsAt w0.heap (.slice (some ⟨w.heap.size, 0, none⟩) 14 14) badsZ) := by rw [← hw0]; exact HB.out
  have HK0 : Hid (Keeps w w0) := by rw [← hw0]; exact HK0.out
  clear hw0 h97 hz49 HT33 HT49
  go_loopw [11] (fun i wr => ∃ k : Nat, k ≤ 14 ∧ i = .int .i64 k ∧ Hid (Keeps w0 wr)) (fun i _ => 14 - (intOf i).toNat)
  case atStart => exact ⟨0, by omega, rfl, keeps_refl _⟩
  case round =>
    obtain ⟨k, hk, rfl, hK⟩ := hrel
    by_cases hlt : k < 14
    · have hlt64 : (k : Int) < 14 := by omega
      have hlt65 : decide ((k : Int) < 14) = true := decide_eq_true (by omega)
      have hk0 : (0 : Int) ≤ (k : Int) := by omega
      obtain ⟨b1, o1, e1, c1⟩ := text_cell (SeqAt.keeps HB.out hK.out) (i := k) hlt
      have hno := badsZ_no (tAt badsZ k) (by rw [tAt_eq (l := badsZ) hlt]; exact List.getElem_mem _)
      injection e1 with e1
      injection e1 with e11 e12 _
      subst e11 e12
      rw [Nat.zero_add] at c1
      have HNO := Lib.hid hno
      clear hno
      generalize tAt badsZ k = x at *
      go_wp2_with fail
      refine Calls.mono (may_any x _) ?_
      rintro e w2 ⟨rfl, hk2⟩
      rw [HNO.out]
      have HK2 := Lib.hid (hK.out.trans hk2)
      clear hk2
      go_wp2_with fail
      exact ⟨⟨k + 1, by omega, by go_num, HK2⟩, by simp [intOf]; omega⟩
    · obtain rfl : k = 14 := by omega
      have HKW := Lib.hid (HK0.out.trans hK.out)
      clear HB hK HK0 hlt
      go_wp2_with fail
      go_loopw [3, 4] (fun v i wx => ∃ k : Nat, k ≤ 256 ∧ i = .int .i64 k ∧ Hid (OwnRec w.heap.size 47 3 IsFile wx v (manyF k)) ∧ Hid (Keeps w wx)) (fun _ i _ => 256 - (intOf i).toNat)
      case atStart => exact ⟨0, by omega, rfl, by exact OwnRec.nil _ _ _ _ _, by exact HKW⟩
      case round =>
        obtain ⟨k, hk, rfl, hR, hK⟩ := hrel
        by_cases hlt : k < 256
        · have hlt64 : (k : Int) < 256 := by omega
          have hlt65 : decide ((k : Int) < 256) = true := decide_eq_true (by omega)
          have hk0 : (0 : Int) ≤ (k : Int) := by omega
          have HMS := Lib.hid (manyF_succ k)
          obtain ⟨us, hu1, hu2, hu3⟩ := hR.out
          have HU := Lib.hid hu1
          have HL2 := Lib.hid hu2
          have HU3 := Lib.hid hu3
          have HL3 : Hid (us.length ≤ 256) := by show _ ≤ _; rw [hu2, manyF_len]; omega
          clear hu1 hu2 hu3 hR
          obtain ⟨pv, qv, rfl⟩ := own_sliceN HU.out
          have e1 : (((UInt8.ofNat (97 + k / 16)).toNat : Nat) : Int) = 97 + (k : Int) / 16 := by rw [UInt8.toNat_ofNat']; omega
          have e2 : (((UInt8.ofNat (97 + k % 16)).toNat : Nat) : Int) = 97 + (k : Int) % 16 := by rw [UInt8.toNat_ofNat']; omega
          have hrow := rowAt_lit wr [UInt8.ofNat (97 + k / 16), UInt8.ofNat (97 + k % 16)] 2 2 rfl (by decide)
          have hcs : bytesV [UInt8.ofNat (97 + k / 16), UInt8.ofNat (97 + k % 16)] = [.int .u8 (97 + (k : Int) / 16), .int .u8 (97 + (k : Int) % 16)] := by
            show [Value.int .u8 _, Value.int .u8 _] = _
            rw [e1, e2]
          rw [hcs] at hrow
          have hcv := conv_row (P := Tryd.prog) (src := 45) (dst := 9) (e := 5) Tryd.underlying45 (by kernel_rfl) Tryd.underlying9 hrow
          have hpe : (⟨#[102]⟩ : ByteArray) ++ strB [UInt8.ofNat (97 + k / 16), UInt8.ofNat (97 + k % 16)] = (fileM k).p := rfl
          have hxs : (strB [UInt8.ofNat (97 + k / 16), UInt8.ofNat (97 + k % 16)]).size = 2 := rfl
          have hfp : Hid ((fileM k).d = false ∧ (fileM k).t = ⟨#[]⟩) := ⟨rfl, rfl⟩
          have HFM : Hid (fileM k = ⟨(fileM k).p, false, ⟨#[]⟩⟩) := rfl
          have hszk := hK.out.size
          clear e1 e2 hrow hcs
          generalize strB [UInt8.ofNat (97 + k / 16), UInt8.ofNat (97 + k % 16)] = X at *
          generalize (fileM k).p = P at *
          go_wp2_with (at_builtin; refine wp_appr1 elFile0 rfl (.tmp 22) (.tmp 35) rfl w.heap.size (.slice pv us.length qv) us.length us.flatten rfl ((HU.out.alloc _).alloc _) _ [.string P, .bool false, .string ⟨#[]⟩] rfl rfl (cells_al1 wr _ #[.string P, .bool false, .string ⟨#[]⟩] _) (fun y hy => by simp at hy; rcases hy with rfl | rfl | rfl <;> rfl) (by have := HL3.out; omega) (by simp; omega) ?_; intro v' w7 hown hchg; have HP7 := Lib.hid (OwnRec.push (k := 3) (R := IsFile) (R' := IsFile) (l := manyF k) (x := ⟨P, false, ⟨#[]⟩⟩) HL2.out HU3.out hown (fun _ _ _ x => x) rfl rfl); have HK7 : Hid (Keeps w w7) := hK.out.then (chg_kept (B := w.heap.size) (Chg.trans (Kept.any (Keeps.trans (kal _ _) (kal _ _))) hchg) (fun q _ e => (own_blockK HU.out q e).1) hK.out.size) (Nat.le_refl _); clear hown hchg)
          refine ⟨?_, by simp [intOf]; omega⟩
          first | exact ⟨k + 1, by omega, by go_num, by rw [HMS.out, HFM.out]; exact HP7, HK7⟩ | ((repeat apply Exists.intro); exact ⟨⟨k + 1, by omega, by go_num, by rw [HMS.out, HFM.out]; exact HP7, HK7⟩, rfl⟩)
        · obtain rfl : k = 256 := by omega
          obtain ⟨us, hu1, hu2, hu3⟩ := hR.out
          obtain ⟨pv, qv, rfl⟩ := own_sliceN hu1
          rw [manyF_len] at hu2
          have HU := Lib.hid hu1
          have HL2 := Lib.hid hu2
          have HU3 := Lib.hid hu3
          have HOB := Lib.hid (own_blockK hu1)
          have hszk := hK.out.size
          have HTX := Lib.hid (fun wx => times_any 16384 ⟨#[120]⟩ wx (by decide) (by decide) (by decide))
          have HT32 := Lib.hid (fun wx => times_any 32 ⟨#[97]⟩ wx (by decide) (by decide) (by decide))
          have HT48 := Lib.hid (fun wx => times_any 48 ⟨#[97, 47]⟩ wx (by decide) (by decide) (by decide))
          have HT47 := Lib.hid (fun wx => times_any 47 ⟨#[97, 47]⟩ wx (by decide) (by decide) (by decide))
          have z48 : (timesT 48 ⟨#[97, 47]⟩).size = 96 := by rw [timesT_size]; rfl
          have z47 : (timesT 47 ⟨#[97, 47]⟩).size = 94 := by rw [timesT_size]; rfl
          have HZX : Hid ((timesT 16384 ⟨#[120]⟩).size = 16384) := by show _ = _; rw [timesT_size]; rfl
          clear hu1 hu2 hu3 hR hlt
          generalize timesT 16384 ⟨#[120]⟩ = X at *
          go_wp2_with fail
          refine Calls.mono (HTX.out _) ?_
          rintro e wa ⟨rfl, hwa⟩
          subst hwa
          have hzx := HZX.out
          go_upto_region 13 with (refine wpList_store_row rfl 47 (.tmp 5) (.tmp 38) rfl wr.heap.size #[.string ⟨#[122]⟩, .bool false, .string X] rfl rfl 47 _ (heap_alloc_last wr _) (by kernel_rfl) rfl (file_one ⟨#[122]⟩ X false) ?_; rw [World.setRow_alloc_new])
          have d0 : (wr.alloc (.cells #[.string ⟨#[122]⟩, .bool false, .string X] 47)).cell? ⟨wr.heap.size, 0, none⟩ = some (.string ⟨#[122]⟩) := World.cell?_alloc_new _ _ _ _
          have d1 : (wr.alloc (.cells #[.string ⟨#[122]⟩, .bool false, .string X] 47)).cell? ⟨wr.heap.size, 1, none⟩ = some (.bool false) := World.cell?_alloc_new _ _ _ _
          have d2 : (wr.alloc (.cells #[.string ⟨#[122]⟩, .bool false, .string X] 47)).cell? ⟨wr.heap.size, 2, none⟩ = some (.string X) := World.cell?_alloc_new _ _ _ _
          have HKF : Hid (Keeps w (wr.alloc (.cells #[.string ⟨#[122]⟩, .bool false, .string X] 47))) := hK.out.trans (kal _ _)
          have HUF : Hid (World.ownsRow (wr.alloc (.cells #[.string ⟨#[122]⟩, .bool false, .string X] 47)) w.heap.size 47 3 (.slice pv us.length qv) us.length us.flatten) := HU.out.alloc _
          have HFS : Hid (∀ q, (Value.slice pv us.length qv).ownBlock = some q → q ≠ wr.heap.size) := fun q e => by have := (HOB.out q e).2.1; omega
          have HBS : Hid (∀ q, (Value.slice pv us.length qv).ownBlock = some q → w.heap.size ≤ q) := fun q e => (HOB.out q e).1
          clear hK HU HOB hszk
          generalize wr.alloc (.cells #[.string ⟨#[122]⟩, .bool false, .string X] 47) = wF at *
          generalize wr.heap.size = F at *
          simp only [List.append]
          go_wp2_with fail
          refine Calls.mono (may_any _ _) ?_
          rintro e wb1 ⟨rfl, hk⟩
          rw [pn1]
          replace d0 := keeps_cell hk d0
          replace d1 := keeps_cell hk d1
          replace d2 := keeps_cell hk d2
          have HK1 := Lib.hid (HKF.out.trans hk)
          have HU1 := Lib.hid (owns_chgK (T := fun _ => False) HUF.out (Kept.any hk) (fun _ _ x => x))
          clear hk HKF HUF
          go_wp2_with fail
          refine Calls.mono (HT32.out _) ?_
          rintro e wt ⟨rfl, hwt⟩
          rw [← hwt]
          clear hwt
          go_wp2_with fail
          refine Calls.mono (may_any _ _) ?_
          rintro e wb2 ⟨rfl, hk⟩
          rw [pn2]
          replace d0 := keeps_cell hk d0
          replace d1 := keeps_cell hk d1
          replace d2 := keeps_cell hk d2
          have HK2 := Lib.hid (HK1.out.trans hk)
          have HU2 := Lib.hid (owns_chgK (T := fun _ => False) HU1.out (Kept.any hk) (fun _ _ x => x))
          clear hk HK1 HU1
          go_wp2_with fail
          refine Calls.mono (HT48.out _) ?_
          rintro e wt ⟨rfl, hwt⟩
          rw [← hwt]
          clear hwt
          go_wp2_with fail
          refine Calls.mono (may_any _ _) ?_
          rintro e wb3 ⟨rfl, hk⟩
          rw [pn3]
          replace d0 := keeps_cell hk d0
          replace d1 := keeps_cell hk d1
          replace d2 := keeps_cell hk d2
          have HK3 := Lib.hid (HK2.out.trans hk)
          have HU3 := Lib.hid (owns_chgK (T := fun _ => False) HU2.out (Kept.any hk) (fun _ _ x => x))
          clear hk HK2 HU2
          go_wp2_with fail
          refine Calls.mono (HT47.out _) ?_
          rintro e wt ⟨rfl, hwt⟩
          rw [← hwt]
          clear hwt
          go_wp2_with fail
          refine Calls.mono (may_any _ _) ?_
          rintro e wb4 ⟨rfl, hk⟩
          rw [pn4]
          replace d0 := keeps_cell hk d0
          replace d1 := keeps_cell hk d1
          replace d2 := keeps_cell hk d2
          have HK4 := Lib.hid (HK3.out.trans hk)
          have HU4 := Lib.hid (owns_chgK (T := fun _ => False) HU3.out (Kept.any hk) (fun _ _ x => x))
          clear hk HK3 HU3
          go_wp2_with fail
          refine Calls.mono (tree_any _ [] _ (RecAt.nil _ _ _) (smallF_dec rfl)) ?_
          rintro e wb5 ⟨rfl, hk⟩
          rw [pn5]
          replace d0 := keeps_cell hk d0
          replace d1 := keeps_cell hk d1
          replace d2 := keeps_cell hk d2
          have HK5 := Lib.hid (HK4.out.trans hk)
          have HU5 := Lib.hid (owns_chgK (T := fun _ => False) HU4.out (Kept.any hk) (fun _ _ x => x))
          clear hk HK4 HU4
          go_wp2_with fail
          refine Calls.mono (tree_any _ (manyF 256) _ (RecIn.at_ (OwnRec.seq (⟨us, HU5.out, by rw [HL2.out, manyF_len], HU3.out⟩ : OwnRec w.heap.size 47 3 IsFile _ _ (manyF 256)) (by rw [manyF_len]; decide))) (manyF_small 256)) ?_
          rintro e wc ⟨rfl, hk⟩
          rw [manyF_tree]
          replace d0 := keeps_cell hk d0
          replace d1 := keeps_cell hk d1
          replace d2 := keeps_cell hk d2
          have HKC := Lib.hid (HK5.out.trans hk)
          have HUC := Lib.hid (owns_chgK (T := fun _ => False) HU5.out (Kept.any hk) (fun _ _ x => x))
          clear hk HK5 HU5
          have hszc := HKC.out.size
          go_wp2_with (at_builtin; refine frz ?_)
          unfold Frozen
          refine wp_appr1_g elFile0 (by kernel_rfl) (.tmp 63) (.tmp 65) rfl w.heap.size (.slice pv us.length qv) us.length us.flatten rfl (HUC.out.alloc _) _ [.string ⟨#[122]⟩, .bool false, .string X] rfl rfl (fun j hj => by rw [World.cell?_alloc_new, ← Array.getElem?_toList]; exact List.getElem?_eq_getElem hj) (fun y hy => by simp at hy; rcases hy with rfl | rfl | rfl <;> rfl) (by have := HL2.out; omega) (by simp; omega) ?_
          intro v' wd hown hchg
          have HLD : Hid ((manyF 256 ++ [zF X]).length = 257) := by show _ = _; rw [List.length_append, manyF_len]; rfl
          have HRD := Lib.hid (OwnRec.push (k := 3) (R := IsFile) (R' := IsFile) (l := manyF 256) (x := zF X) (by rw [HL2.out, manyF_len]) HU3.out hown (fun _ _ _ x => x) rfl rfl)
          have HKD : Hid (Keeps w wd) := HKC.out.then (chg_kept (B := w.heap.size) (Chg.trans (Kept.any (kal _ _)) hchg) (fun q _ e => HBS.out q e) HKC.out.size) (Nat.le_refl _)
          replace d0 := cell_chg hchg (keeps_cell (kal wc (.cells #[.string ⟨#[122]⟩, .bool false, .string X] 47)) d0) (fun e => HFS.out _ e rfl)
          replace d1 := cell_chg hchg (keeps_cell (kal wc (.cells #[.string ⟨#[122]⟩, .bool false, .string X] 47)) d1) (fun e => HFS.out _ e rfl)
          replace d2 := cell_chg hchg (keeps_cell (kal wc (.cells #[.string ⟨#[122]⟩, .bool false, .string X] 47)) d2) (fun e => HFS.out _ e rfl)
          clear hown hchg HUC HKC hszc
          have HSD : Hid (SmallF (manyF 256 ++ [zF X])) := smallF_of fun x hx => by
            rcases List.mem_append.1 hx with h | h
            · obtain ⟨i, hi, rfl⟩ := mem_fAt h
              exact manyF_small 256 i hi
            · simp at h; subst h; exact ⟨(by decide : (⟨#[122]⟩ : ByteArray).size ≤ 100000), by have := HZX.out; show X.size ≤ _; omega⟩
          obtain ⟨pd, qd, rfl⟩ := rec_shape (RecIn.at_ (HRD.out.seq (by rw [HLD.out]; decide)))
          go_wp2_with fail
          refine Calls.mono (tree_any _ _ _ (RecIn.at_ (HRD.out.seq (by rw [HLD.out]; decide))) HSD.out) ?_
          rintro e we ⟨rfl, hk⟩
          rw [tree_257 _ HLD.out]
          replace d0 := keeps_cell hk d0
          replace d1 := keeps_cell hk d1
          replace d2 := keeps_cell hk d2
          have HKE := Lib.hid (HKD.out.trans hk)
          clear hk HRD HSD HLD HKD
          go_wp2_with fail
          refine Calls.mono (tree_any _ [zF X] _ (files_lit _ [zF X] _ _ _ rfl rfl (by decide)) (smallF_of fun x hx => by simp at hx; subst hx; exact ⟨(by decide : (⟨#[122]⟩ : ByteArray).size ≤ 100000), by show X.size ≤ _; have := HZX.out; omega⟩)) ?_
          rintro e wf7 ⟨rfl, hk⟩
          rw [tree_z, decide_eq_true (by have := HZX.out; omega)]
          replace hk := Keeps.trans (kal _ _) hk
          replace d0 := keeps_cell hk d0
          replace d1 := keeps_cell hk d1
          replace d2 := keeps_cell hk d2
          have HKF7 := Lib.hid (HKE.out.trans hk)
          clear hk HKE
          obtain ⟨Y, hY⟩ : ∃ Y, X ++ (⟨#[120]⟩ : ByteArray) = Y := ⟨_, rfl⟩
          have HYZ : Hid (Y.size = 16385) := by show _ = _; rw [← hY, ByteArray.size_append, HZX.out]; rfl
          go_wp2_with fail
          refine Calls.mono (tree_any _ [zF Y] _ (files_lit _ [zF Y] _ _ _ rfl rfl (by decide)) (smallF_of fun x hx => by simp at hx; subst hx; exact ⟨(by decide : (⟨#[122]⟩ : ByteArray).size ≤ 100000), by show Y.size ≤ _; have := HYZ.out; omega⟩)) ?_
          rintro e wf8 ⟨rfl, hk⟩
          rw [tree_z, decide_eq_false (by have := HYZ.out; omega)]
          replace hk := Keeps.trans (kal _ _) hk
          replace d0 := keeps_cell hk d0
          replace d1 := keeps_cell hk d1
          replace d2 := keeps_cell hk d2
          have HKF8 := Lib.hid (HKF7.out.trans hk)
          clear hk HKF7
          go_wp2_with fail
          refine Calls.mono (tree_any _ [fB, fAf] _ (files_lit _ [fB, fAf] _ _ _ rfl rfl (by decide)) (smallF_dec rfl)) ?_
          rintro e wf9 ⟨rfl, hk⟩
          rw [pn6]
          replace hk := Keeps.trans (kal _ _) hk
          replace d0 := keeps_cell hk d0
          replace d1 := keeps_cell hk d1
          replace d2 := keeps_cell hk d2
          have HKF9 := Lib.hid (HKF8.out.trans hk)
          clear hk HKF8
          go_wp2_with fail
          refine Calls.mono (tree_any _ [fAf, fAf] _ (files_lit _ [fAf, fAf] _ _ _ rfl rfl (by decide)) (smallF_dec rfl)) ?_
          rintro e wf10 ⟨rfl, hk⟩
          rw [pn7]
          replace hk := Keeps.trans (kal _ _) hk
          replace d0 := keeps_cell hk d0
          replace d1 := keeps_cell hk d1
          replace d2 := keeps_cell hk d2
          have HKF10 := Lib.hid (HKF9.out.trans hk)
          clear hk HKF9
          go_wp2_with fail
          refine Calls.mono (tree_any _ [fAx] _ (files_lit _ [fAx] _ _ _ rfl rfl (by decide)) (smallF_dec rfl)) ?_
          rintro e wf11 ⟨rfl, hk⟩
          rw [pn8]
          replace hk := Keeps.trans (kal _ _) hk
          replace d0 := keeps_cell hk d0
          replace d1 := keeps_cell hk d1
          replace d2 := keeps_cell hk d2
          have HKF11 := Lib.hid (HKF10.out.trans hk)
          clear hk HKF10
          go_wp2_with fail
          refine Calls.mono (tree_any _ [fA, fA_, fAb] _ (files_lit _ [fA, fA_, fAb] _ _ _ rfl rfl (by decide)) (smallF_dec rfl)) ?_
          rintro e wf12 ⟨rfl, hk⟩
          rw [pn9]
          replace hk := Keeps.trans (kal _ _) hk
          replace d0 := keeps_cell hk d0
          replace d1 := keeps_cell hk d1
          replace d2 := keeps_cell hk d2
          have HKF12 := Lib.hid (HKF11.out.trans hk)
          clear hk HKF11
          go_wp2_with fail
          refine Calls.mono (awake_any _) ?_
          rintro e wz ⟨rfl, hk⟩
          have HKZ := Lib.hid (HKF12.out.trans hk)
          clear hk
          go_wp2_with fail
          go_ret
          exact ⟨rfl, HKZ.out⟩
end Go.Proofs.YtdpfanifagfciaaDoor
