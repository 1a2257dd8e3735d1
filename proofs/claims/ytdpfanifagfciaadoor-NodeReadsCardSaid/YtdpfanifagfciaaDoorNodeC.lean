/- The walks of the reference's mayOne. Printed by hand. -/
import Derived.Test.YtdpfanifagfciaaDoorNodeB
import Derived.Test.YtdpfanifagfciaaDoorTreeR2
import Derived.Test.YtdpfanifagfciaaDoorStage
import Derived.Lib.AppendStr
import Derived.Lib.SmallJoins
import Derived.ArgAppend
namespace Go.Proofs.YtdpfanifagfciaaDoor
open Go.RowKit
attribute [local go_sem ↓] Go.wp_at_zero Go.wp_at_succ
theorem hasS_none {n : ByteArray} (h : ∀ j, j < n.size → byT n.data.toList j ≠ 47) : hasS n = false := by
  unfold hasS
  rw [decide_eq_false_iff_not]
  intro h0
  obtain e | ⟨i, e⟩ := idx_cases n.data.toList
  · omega
  · obtain ⟨e1, _⟩ := Lib.indexByte_some e
    obtain ⟨h2, h3⟩ := List.getElem?_eq_some_iff.1 e1
    refine h i (by rw [← data_size]; exact h2) ?_
    rw [byT_at h2, h3]; rfl
theorem hasS_some {n : ByteArray} {j : Nat} (hj : j < n.size) (h : byT n.data.toList j = 47) : hasS n = true := by
  cases hs : hasS n with
  | true => rfl
  | false =>
    exfalso
    unfold hasS at hs
    rw [decide_eq_false_iff_not] at hs
    have e : Lib.indexByte n.data.toList 47 = -1 := by
      obtain e | ⟨i, e⟩ := idx_cases n.data.toList
      · exact e
      · omega
    have hl : j < n.data.toList.length := by rw [data_size]; exact hj
    have h1 : n.data.toList[j] = 47 := by
      rw [byT_at hl] at h
      exact UInt8.toNat_inj.1 (show _ = 47 by omega)
    have hc := cutP_none e
    exact Lib.indexByte_none e j (by rw [List.getElem?_eq_getElem hl, h1])
set_option maxRecDepth 100000 in
set_option maxHeartbeats 8000000 in
theorem mayone_any (n : ByteArray) (d : Bool) (z : Int) (p : Option Addr) (q : Nat) (c : List ByteArray) (w : World) (h : SeqAt IsText w.heap (.slice p c.length q) c) (hn : n.size ≤ 1000000) (hc6 : c.length ≤ 1000000) :
    Calls Tryd.prog 60 #[.agg #[.string n, .bool d, .int .i64 z, .slice p c.length q]] w fun e w' => e = .returned (.bool (mayE ⟨n, d, z, c⟩)) ∧ Keeps w w' := by
  have H := Lib.hid h
  have HE : Hid (mayE ⟨n, d, z, c⟩ = (!(!mayPath n.data.toList || hasS n || c.any oddC) && (if d then decide (z = 0) && decide (c.length = 1) else decide (0 ≤ z) && decide (z ≤ 16384) && decide ((c.length : Int) ≤ z) && decide (z ≤ 1024 * (c.length : Int))))) := rfl
  clear h
  generalize mayE ⟨n, d, z, c⟩ = b at *
  have HMY := Lib.hid (fun wx => rmay_any n wx hn)
  generalize mayPath n.data.toList = my at *
  go_enter Tryd.func60, Tryd.ntmps60
  go_wp2_with fail
  refine Calls.mono (HMY.out _) ?_
  rintro e w2 ⟨rfl, hk2⟩
  have HB2 : Hid (BlkAt w2 w.heap.size 40 #[.string n, .bool d, .int .i64 z, .slice p c.length q]) := (BlkAt.new _ _ _).keeps hk2
  have HK2 : Hid (Keeps w w2) := Keeps.trans (kal _ _) hk2
  clear hk2 HMY
  cases my with
  | false =>
    have HB : Hid (b = false) := by show _ = _; rw [HE.out]; rfl
    go_wp2_with fail
    go_ret
    exact ⟨by rw [HB.out]; rfl, HK2.out⟩
  | true =>
  go_wp2_with fail
  go_loopw [3] (fun i wr => ∃ k : Nat, k ≤ n.size ∧ i = .int .i64 k ∧ Hid (∀ j, j < k → byT n.data.toList j ≠ 47) ∧ w2 = wr) (fun i _ => n.size - (intOf i).toNat)
  case atStart => exact ⟨0, by omega, rfl, fun j h => absurd h (by omega), rfl⟩
  case round =>
    obtain ⟨k, hk, rfl, hN, rfl⟩ := hrel
    have c0 := HB2.out.cell (i := 0) rfl
    by_cases hlt : k < n.size
    · have hlt64 : (k : Int) < (n.size : Int) := by omega
      have hk0 : (0 : Int) ≤ (k : Int) := by omega
      have hr := run_byT n k hlt
      by_cases h47 : byT n.data.toList k = 47
      · have g1 : ((byT n.data.toList k : Int) == 47) = true := by rw [beq_iff_eq]; omega
        have g2 : decide ((byT n.data.toList k : Int) = 47) = true := decide_eq_true (by omega)
        have HB : Hid (b = false) := by show _ = _; rw [HE.out, hasS_some hlt h47]; rfl
        clear h47
        generalize byT n.data.toList k = y at *
        go_wp2_with fail
        go_ret
        exact ⟨by rw [HB.out]; rfl, HK2.out⟩
      · have HN2 : Hid (∀ j, j < k + 1 → byT n.data.toList j ≠ 47) := fun j hj => by
          by_cases e2 : j = k
          · subst e2; exact h47
          · exact hN.out j (by omega)
        have g1 : ((byT n.data.toList k : Int) == 47) = false := beq_false_of_ne (by omega)
        have g2 : decide ((byT n.data.toList k : Int) = 47) = false := decide_eq_false (by omega)
        clear h47
        generalize byT n.data.toList k = y at *
        go_wp2_with fail
        exact ⟨⟨k + 1, by omega, by go_num, HN2, by first | rfl | trivial⟩, by simp [intOf] <;> omega⟩
    · obtain rfl : k = n.size := by omega
      have HE1 : Hid (b = (!(c.any oddC) && (if d then decide (z = 0) && decide (c.length = 1) else decide (0 ≤ z) && decide (z ≤ 16384) && decide ((c.length : Int) ≤ z) && decide (z ≤ 1024 * (c.length : Int))))) := by
        show _ = _; rw [HE.out, hasS_none hN.out]; rfl
      clear hN hlt
      go_wp2_with fail
      go_loopw [4] (fun i wr => ∃ k : Nat, k ≤ c.length ∧ i = .int .i64 k ∧ Hid (∀ j, j < k → oddC (tAt c j) = false) ∧ w2 = wr) (fun i _ => c.length - (intOf i).toNat)
      case atStart => exact ⟨0, by omega, rfl, fun j h => absurd h (by omega), rfl⟩
      case round =>
        obtain ⟨k, hk, rfl, hN, rfl⟩ := hrel
        have c3 := HB2.out.cell (i := 3) rfl
        by_cases hlt : k < c.length
        · have hlt64 : (k : Int) < (c.length : Int) := by omega
          have hk0 : (0 : Int) ≤ (k : Int) := by omega
          obtain ⟨bx, ox, rfl, d1⟩ := text_cell (SeqAt.keeps H.out HK2.out) hlt
          have HF : Hid (oddC (tAt c k) = true → c.any oddC = true) := fun e => List.any_eq_true.2 ⟨_, by rw [tAt_eq hlt]; exact List.getElem_mem hlt, e⟩
          have HN2 : Hid (oddC (tAt c k) = false → ∀ j, j < k + 1 → oddC (tAt c j) = false) := fun e j hj => by
            by_cases e2 : j = k
            · subst e2; exact e
            · exact hN.out j (by omega)
          generalize tAt c k = S at *
          by_cases h32 : S.size = 32
          · have HN3 := Lib.hid (HN2.out (by unfold oddC; simp [h32]))
            have f1 : ((S.size : Int) == 32) = true := by rw [beq_iff_eq]; omega
            have f2 : decide ((S.size : Int) = 32) = true := decide_eq_true (by omega)
            have f3 : (S.size : Int) = 32 := by omega
            clear h32
            go_wp2_with fail
            exact ⟨⟨k + 1, by omega, by go_num, HN3, by first | rfl | trivial⟩, by simp [intOf] <;> omega⟩
          · have HF2 := Lib.hid (HF.out (by unfold oddC; simp [h32]))
            have HB : Hid (b = false) := by show _ = _; rw [HE1.out, HF2.out]; rfl
            have f1 : ((S.size : Int) == 32) = false := beq_false_of_ne (by omega)
            have f2 : decide ((S.size : Int) = 32) = false := decide_eq_false (by omega)
            have f3 : ¬ (S.size : Int) = 32 := by omega
            clear h32
            go_wp2_with fail
            go_ret
            exact ⟨by rw [HB.out]; rfl, HK2.out⟩
        · obtain rfl : k = c.length := by omega
          have HO : Hid (c.any oddC = false) := by
            show _ = _
            rw [List.any_eq_false]
            intro s hs
            obtain ⟨i, hi, rfl⟩ := List.getElem_of_mem hs
            have := hN.out i hi
            rw [tAt_eq hi] at this
            simp [this]
          have HT : Hid (b = (if d then decide (z = 0) && decide (c.length = 1) else decide (0 ≤ z) && decide (z ≤ 16384) && decide ((c.length : Int) ≤ z) && decide (z ≤ 1024 * (c.length : Int)))) := by
            show _ = _; rw [HE1.out, HO.out]; rfl
          have c1 := HB2.out.cell (i := 1) rfl
          have c2 := HB2.out.cell (i := 2) rfl
          have hK := HK2
          clear hN hlt HE HE1 HO
          cases d with
          | true =>
            by_cases z0 : z = 0
            · have f1 : (z == 0) = true := beq_iff_eq.2 z0
              have f2 : decide (z = 0) = true := decide_eq_true z0
              by_cases m1 : (c.length : Int) = 1
              · have f3 : ((c.length : Int) == 1) = true := beq_iff_eq.2 m1
                have f4 : decide ((c.length : Int) = 1) = true := decide_eq_true m1
                have HB : Hid (b = true) := by show _ = _; rw [HT.out]; simp [z0]; omega
                clear z0 m1
                go_wp2_with fail
                go_ret
                exact ⟨by rw [HB.out]; rfl, hK.out⟩
              · have f3 : ((c.length : Int) == 1) = false := beq_false_of_ne m1
                have f4 : decide ((c.length : Int) = 1) = false := decide_eq_false m1
                have HB : Hid (b = false) := by show _ = _; rw [HT.out]; simp [z0]; omega
                clear z0 m1
                go_wp2_with fail
                go_ret
                exact ⟨by rw [HB.out]; rfl, hK.out⟩
            · have f1 : (z == 0) = false := beq_false_of_ne z0
              have f2 : decide (z = 0) = false := decide_eq_false z0
              have HB : Hid (b = false) := by show _ = _; rw [HT.out]; simp [z0]
              clear z0
              go_wp2_with fail
              go_ret
              exact ⟨by rw [HB.out]; rfl, hK.out⟩
          | false =>
            by_cases n0 : ¬ ((0 : Int) ≤ z)
            · have g0 : decide ((0 : Int) ≤ z) = false := decide_eq_false n0
              have HB : Hid (b = false) := by show _ = _; rw [HT.out]; simp; omega
              go_wp2_with fail
              go_ret
              exact ⟨by rw [HB.out]; rfl, hK.out⟩
            have n0 := Decidable.of_not_not n0
            have g0 : decide ((0 : Int) ≤ z) = true := decide_eq_true n0
            by_cases n1 : ¬ (z ≤ 16384)
            · have g1 : decide (z ≤ 16384) = false := decide_eq_false n1
              have HB : Hid (b = false) := by show _ = _; rw [HT.out]; simp; omega
              go_wp2_with fail
              go_ret
              exact ⟨by rw [HB.out]; rfl, hK.out⟩
            have n1 := Decidable.of_not_not n1
            have g1 : decide (z ≤ 16384) = true := decide_eq_true n1
            by_cases n2 : ¬ ((c.length : Int) ≤ z)
            · have g2 : decide ((c.length : Int) ≤ z) = false := decide_eq_false n2
              have HB : Hid (b = false) := by show _ = _; rw [HT.out]; simp; omega
              go_wp2_with fail
              go_ret
              exact ⟨by rw [HB.out]; rfl, hK.out⟩
            have n2 := Decidable.of_not_not n2
            have g2 : decide ((c.length : Int) ≤ z) = true := decide_eq_true n2
            by_cases n3 : ¬ ((z + 1023) / 1024 ≤ (c.length : Int))
            · have g3 : decide ((z + 1023) / 1024 ≤ (c.length : Int)) = false := decide_eq_false n3
              have g9 : Int.tdiv (z + 1023) 1024 = (z + 1023) / 1024 := Int.tdiv_eq_ediv_of_nonneg (by omega)
              have HB : Hid (b = false) := by show _ = _; rw [HT.out]; simp; omega
              go_wp2_with fail
              go_ret
              exact ⟨by rw [HB.out]; rfl, hK.out⟩
            have n3 := Decidable.of_not_not n3
            have g3 : decide ((z + 1023) / 1024 ≤ (c.length : Int)) = true := decide_eq_true n3
            have g9 : Int.tdiv (z + 1023) 1024 = (z + 1023) / 1024 := Int.tdiv_eq_ediv_of_nonneg (by omega)
            have HB : Hid (b = true) := by show _ = _; rw [HT.out]; simp; omega
            go_wp2_with fail
            go_ret
            exact ⟨by rw [HB.out]; rfl, hK.out⟩
end Go.Proofs.YtdpfanifagfciaaDoor
/- The walk of the reference's May of law19. Printed by genrmay19.py. -/
namespace Go.Proofs.YtdpfanifagfciaaDoor
open Go.RowKit
attribute [local go_sem ↓] Go.wp_at_zero Go.wp_at_succ
def rmyA (b1 o1 nn q k kp m qc : Nat) (n Pn : ByteArray) (d : Bool) (z : Int) (pc : Option Addr) : Nat → Value → Prop
  | i, v => v = ([.slice (some ⟨b1, o1, none⟩) nn q, .int .i64 (k : Int), .pointer (some ⟨b1, o1 + k * 4, none⟩), .agg #[.string n, .bool d, .int .i64 z, .slice pc m qc], .bool false, .bool true, .bool true, undef, undef, undef, undef, undef, undef, undef, undef, undef, undef, undef, undef, undef, undef, undef, undef, .bool true] : List Value).getD i undef
def rmyB (b1 o1 nn q k kp m qc : Nat) (n Pn : ByteArray) (d : Bool) (z : Int) (pc : Option Addr) : Nat → Value → Prop
  | i, v => v = ([.slice (some ⟨b1, o1, none⟩) nn q, .int .i64 (k : Int), .pointer (some ⟨b1, o1 + k * 4, none⟩), .agg #[.string n, .bool d, .int .i64 z, .slice pc m qc], .bool true, .bool false, .bool false, .int .i64 (k : Int), .bool false, .bool false, undef, undef, undef, undef, undef, undef, undef, undef, undef, undef, undef, undef, .bool false, .bool false] : List Value).getD i undef
def rmyC (b1 o1 nn q k kp m qc : Nat) (n Pn : ByteArray) (d : Bool) (z : Int) (pc : Option Addr) : Nat → Value → Prop
  | i, v => v = ([.slice (some ⟨b1, o1, none⟩) nn q, .int .i64 (k : Int), .pointer (some ⟨b1, o1 + k * 4, none⟩), .agg #[.string n, .bool d, .int .i64 z, .slice pc m qc], .bool true, .bool false, .bool false, .int .i64 (k : Int), .bool true, .bool true, .slice (some ⟨b1, o1, none⟩) nn q, .int .i64 (k : Int), .pointer (some ⟨b1, o1 + k * 4, none⟩), .pointer (some ⟨b1, o1 + k * 4, none⟩), .string n, .slice (some ⟨b1, o1, none⟩) nn q, .int .i64 (k : Int), .int .i64 (kp : Int), .pointer (some ⟨b1, o1 + kp * 4, none⟩), .pointer (some ⟨b1, o1 + kp * 4, none⟩), .string Pn, .bool true, .bool true, .bool true] : List Value).getD i undef
def rmyD (b1 o1 nn q k kp m qc : Nat) (n Pn : ByteArray) (d : Bool) (z : Int) (pc : Option Addr) : Nat → Value → Prop
  | i, v => v = ([.slice (some ⟨b1, o1, none⟩) nn q, .int .i64 (k : Int), .pointer (some ⟨b1, o1 + k * 4, none⟩), .agg #[.string n, .bool d, .int .i64 z, .slice pc m qc], .bool true, .bool false, .bool false, .int .i64 (k : Int), .bool true, .bool true, .slice (some ⟨b1, o1, none⟩) nn q, .int .i64 (k : Int), .pointer (some ⟨b1, o1 + k * 4, none⟩), .pointer (some ⟨b1, o1 + k * 4, none⟩), .string n, .slice (some ⟨b1, o1, none⟩) nn q, .int .i64 (k : Int), .int .i64 (kp : Int), .pointer (some ⟨b1, o1 + kp * 4, none⟩), .pointer (some ⟨b1, o1 + kp * 4, none⟩), .string Pn, .bool false, .bool false, .bool false] : List Value).getD i undef
set_option maxRecDepth 100000 in
set_option maxHeartbeats 8000000 in
theorem rmay19_any (v : Value) (l : List EntR) (w : World) (h : EntsAt w.heap v l) (hs : ∀ x ∈ l, x.c.length ≤ 1000000 ∧ x.n.size ≤ 1000000) : Calls Tryd.prog 33 #[v] w fun e w' => e = .returned (.bool (mayL l)) ∧ Keeps w w' := by
  obtain ⟨p, q, rfl⟩ := rec_shape h
  have H := Lib.hid h
  have HS := Lib.hid hs
  clear h hs
  by_cases h256 : 256 < l.length
  · have HT : Hid (mayL l = false) := by show _ = _; unfold mayL; rw [decide_eq_false (by omega)]; rfl
    have g1 : decide ((256 : Int) < (l.length : Int)) = true := decide_eq_true (by omega)
    clear h256
    go_enter Tryd.func33, Tryd.ntmps33
    go_wp2_with fail
    go_ret
    exact ⟨by rw [HT.out]; rfl, keeps_refl _⟩
  have g1 : decide ((256 : Int) < (l.length : Int)) = false := decide_eq_false (by omega)
  have hl256 : l.length ≤ 256 := by omega
  clear h256
  go_enter Tryd.func33, Tryd.ntmps33
  go_wp2_with fail
  clear g1
  go_loopw [3] (fun i wr => ∃ k : Nat, k ≤ l.length ∧ i = .int .i64 k ∧ Hid (∀ j, j < k → okE l j = true) ∧ Hid (Keeps w wr)) (fun i _ => l.length - (intOf i).toNat)
  case atStart => exact ⟨0, by omega, rfl, fun j h => absurd h (by omega), keeps_refl _⟩
  case round =>
    obtain ⟨k, hk, rfl, hN, hK⟩ := hrel
    by_cases hlt : k < l.length
    · have hlt64 : (k : Int) < (l.length : Int) := by omega
      have HA : Hid ((0 : Int) ≤ (k : Int) ∧ (k : Int) < (l.length : Int)) := ⟨by omega, by omega⟩
      obtain ⟨b1, o1, pc, qc, rfl, _, a0, a1, a2, a3, ht, _⟩ := ent_cell (EntsAt.keeps H.out hK.out) hlt
      obtain ⟨b2, o2, _, _, e2, _, c0, _⟩ := ent_cell (EntsAt.keeps H.out hK.out) (i := k - 1) (by omega)
      injection e2 with e2
      injection e2 with e21 e22 _
      subst e21 e22
      have HN2 : Hid (okE l k = true → ∀ j, j < k + 1 → okE l j = true) := fun e j hj => by
        by_cases e2 : j = k
        · subst e2; exact e
        · exact hN.out j (by omega)
      have HF : Hid (okE l k = false → mayL l = false) := fun e => by
        unfold mayL
        rw [Bool.and_eq_false_iff]
        right
        rw [List.all_eq_false]
        exact ⟨k, List.mem_range.2 hlt, by rw [e]; simp⟩
      have HOK : Hid (okE l k = (mayE (eAt l k) && (decide (k = 0) || lessT (eAt l (k - 1)).n (eAt l k).n))) := rfl
      obtain ⟨s1, s2⟩ := HS.out _ (eAt_mem hlt)
      have HMAY : Hid (∀ wx, SeqAt IsText wx.heap (.slice pc (eAt l k).c.length qc) (eAt l k).c → Calls Tryd.prog 60 #[.agg #[.string (eAt l k).n, .bool (eAt l k).d, .int .i64 (eAt l k).z, .slice pc (eAt l k).c.length qc]] wx fun e w' => e = .returned (.bool (mayE (eAt l k))) ∧ Keeps wx w') := fun wx hh => mayone_any _ _ _ _ _ _ wx hh s2 s1
      have HGE : Hid ((Op.bytesLess (eAt l k).n.toList (eAt l (k - 1)).n.toList || (eAt l k).n.toList == (eAt l (k - 1)).n.toList) = !(lessT (eAt l (k - 1)).n (eAt l k).n)) := leT_is _ _
      have HTX := Lib.hid ht
      generalize hkp : k - 1 = kp at *
      have HW : Hid (k = 0 ∨ IntKind.i64.wrap ((k : Int) - 1) = (kp : Int)) := by
        subst hkp
        by_cases e : k = 0
        · exact .inl e
        · exact .inr (by rw [IntWalk.i64_in _ (by omega)]; omega)
      have HB : Hid ((0 : Int) ≤ (kp : Int) ∧ (kp : Int) < (l.length : Int)) := ⟨by omega, by omega⟩
      clear hkp ht s1 s2
      generalize mayE (eAt l k) = my at *
      generalize lessT (eAt l kp).n (eAt l k).n = ls at *
      generalize (eAt l k).n = n at *
      generalize (eAt l k).d = d at *
      generalize (eAt l k).z = z at *
      generalize (eAt l kp).n = Pn at *
      generalize (eAt l k).c = c at *
      have E0 := Lib.hid a0
      have E1 := Lib.hid a1
      have E2 := Lib.hid a2
      have E3 := Lib.hid a3
      have Q0 := Lib.hid c0
      clear a0 a1 a2 a3 c0
      go_wp2_with fail
      cases my with
      | false =>
        have HT2 := Lib.hid (HF.out (by rw [HOK.out]; rfl))
        refine wp_region_stage [13, 14, 15, 16, 17, 18, 19, 20, 21, 22, 23, 24, 25, 26, 27, 28, 29, 30, 31, 32, 33, 34, 35, 36] [[], [], [0, 1], [2], [3], [4], [5], [6], [6], [6], [9], [9], [9], [9], [9], [9], [9], [9], [9], [9], [9], [9], [6], [6, 22]] [] [0, 0, 0, 0, 0, 0, 0, 0, 0, 0, 0, 0, 0, 0, 0, 0, 0, 0, 0, 0, 0, 0, 0, 0] [7, 8, 9, 10, 11, 12, 13, 14, 15, 16, 17, 18, 19, 20, 21, 22] (fun i v _ => rmyA b1 o1 l.length q k kp c.length qc n Pn d z pc i v) (fun w w' => Keeps w w') (fun _ _ w' => Keeps wr w') (by kernel_rfl) (by kernel_rfl) (by kernel_rfl) (by kernel_rfl) (by kernel_rfl) (by kernel_rfl) (by kernel_rfl) ?_ ?_ ?_ ?_ ?_ ?_ ?_
        · exact fun i v w w' c h => h
        · exact fun w => keeps_refl w
        · exact fun i s vs w _ h => h
        · refine ⟨?_, ?_, ?_, ?_, ?_, ?_, ?_, ?_, ?_, ?_, ?_, ?_, ?_, ?_, ?_, ?_, ?_, ?_, ?_, ?_, ?_, ?_, ?_, ?_, trivial⟩
          · exact fun g b h => by (cases h)
          · exact fun g b h => by (cases h)
          · exact fun g b h => by (cases h)
          · exact fun g b h => by (cases h)
          · exact fun g b h => by (cases h)
          · exact fun g b h => by (cases h)
          · exact fun g b h => by (cases h)
          · exact ⟨⟨_, _, rfl, by decide, fun v w h => by (first | (change v = _ at h; subst h; intro x; cases x) | skip)⟩, fun w => rfl⟩
          · exact ⟨⟨_, _, rfl, by decide, fun v w h => by (first | (change v = _ at h; subst h; intro x; cases x) | skip)⟩, fun w => rfl⟩
          · exact ⟨⟨_, _, rfl, by decide, fun v w h => by (first | (change v = _ at h; subst h; intro x; cases x) | skip)⟩, fun w => rfl⟩
          · exact ⟨⟨_, _, rfl, by decide, fun v w h => by (first | (change v = _ at h; subst h; intro x; cases x) | skip)⟩, fun w => rfl⟩
          · exact ⟨⟨_, _, rfl, by decide, fun v w h => by (first | (change v = _ at h; subst h; intro x; cases x) | skip)⟩, fun w => rfl⟩
          · exact ⟨⟨_, _, rfl, by decide, fun v w h => by (first | (change v = _ at h; subst h; intro x; cases x) | skip)⟩, fun w => rfl⟩
          · exact ⟨⟨_, _, rfl, by decide, fun v w h => by (first | (change v = _ at h; subst h; intro x; cases x) | skip)⟩, fun w => rfl⟩
          · exact ⟨⟨_, _, rfl, by decide, fun v w h => by (first | (change v = _ at h; subst h; intro x; cases x) | skip)⟩, fun w => rfl⟩
          · exact ⟨⟨_, _, rfl, by decide, fun v w h => by (first | (change v = _ at h; subst h; intro x; cases x) | skip)⟩, fun w => rfl⟩
          · exact ⟨⟨_, _, rfl, by decide, fun v w h => by (first | (change v = _ at h; subst h; intro x; cases x) | skip)⟩, fun w => rfl⟩
          · exact ⟨⟨_, _, rfl, by decide, fun v w h => by (first | (change v = _ at h; subst h; intro x; cases x) | skip)⟩, fun w => rfl⟩
          · exact ⟨⟨_, _, rfl, by decide, fun v w h => by (first | (change v = _ at h; subst h; intro x; cases x) | skip)⟩, fun w => rfl⟩
          · exact ⟨⟨_, _, rfl, by decide, fun v w h => by (first | (change v = _ at h; subst h; intro x; cases x) | skip)⟩, fun w => rfl⟩
          · exact ⟨⟨_, _, rfl, by decide, fun v w h => by (first | (change v = _ at h; subst h; intro x; cases x) | skip)⟩, fun w => rfl⟩
          · exact ⟨⟨_, _, rfl, by decide, fun v w h => by (first | (change v = _ at h; subst h; intro x; cases x) | skip)⟩, fun w => rfl⟩
          · exact ⟨⟨_, _, rfl, by decide, fun v w h => by (first | (change v = _ at h; subst h; intro x; cases x) | skip)⟩, fun w => rfl⟩
          · exact fun g b h => by (cases h)
        · exact fun _ _ => keeps_refl wr
        · refine ⟨?_, ?_, ?_, ?_, ?_, ?_, ?_, ?_, ?_, ?_, ?_, ?_, ?_, ?_, ?_, ?_, ?_, ?_, ?_, ?_, ?_, ?_, ?_, ?_, trivial⟩
          · intro _ a w1 vs hI ho hn hu K hK
            have e0 : a.tmps[0]? = some (.slice (some ⟨b1, o1, none⟩) l.length q) := ho 0 rfl
            clear hn ho hu
            go_simp
            exact hK _ _ (keeps_refl _) hI rfl
          · intro _ a w1 vs hI ho hn hu K hK
            have e3 : a.tmps[3]? = some (.int .i64 (k : Int)) := ho 3 rfl
            clear hn ho hu
            go_simp
            exact hK _ _ (keeps_refl _) hI rfl
          · intro _ a w1 vs hI ho hn hu K hK
            obtain ⟨e13, g13⟩ : a.tmps[13]? = some (vs 0) ∧ vs 0 = .slice (some ⟨b1, o1, none⟩) l.length q := hn 0 (by decide)
            rw [g13] at e13
            clear g13
            obtain ⟨e14, g14⟩ : a.tmps[14]? = some (vs 1) ∧ vs 1 = .int .i64 (k : Int) := hn 1 (by decide)
            rw [g14] at e14
            clear g14
            clear hn ho hu
            have i1 := HA.out.1
            have i2 := HA.out.2
            go_simp
            exact hK _ _ (keeps_refl _) hI rfl
          · intro _ a w1 vs hI ho hn hu K hK
            obtain ⟨e15, g15⟩ : a.tmps[15]? = some (vs 2) ∧ vs 2 = .pointer (some ⟨b1, o1 + k * 4, none⟩) := hn 2 (by decide)
            rw [g15] at e15
            clear g15
            clear hn ho hu
            have c0 := keeps_cell hI E0.out
            have c1 := keeps_cell hI E1.out
            have c2 := keeps_cell hI E2.out
            have c3 := keeps_cell hI E3.out
            go_simp
            exact hK _ _ (keeps_refl _) hI rfl
          · intro _ a w1 vs hI ho hn hu K hK
            obtain ⟨e16, g16⟩ : a.tmps[16]? = some (vs 3) ∧ vs 3 = .agg #[.string n, .bool d, .int .i64 z, .slice pc c.length qc] := hn 3 (by decide)
            rw [g16] at e16
            clear g16
            clear hn ho hu
            go_simp
            refine Calls.mono (HMAY.out _ (SeqAt.keeps HTX.out hI)) ?_
            rintro e w' ⟨rfl, hk2⟩
            go_simp
            exact hK _ _ hk2 (Keeps.trans hI hk2) rfl
          · intro _ a w1 vs hI ho hn hu K hK
            obtain ⟨e17, g17⟩ : a.tmps[17]? = some (vs 4) ∧ vs 4 = .bool false := hn 4 (by decide)
            rw [g17] at e17
            clear g17
            clear hn ho hu
            go_simp
            exact hK _ _ (keeps_refl _) hI rfl
          · intro _ a w1 vs hI ho hn hu K hK
            obtain ⟨e18, g18⟩ : a.tmps[18]? = some (vs 5) ∧ vs 5 = .bool true := hn 5 (by decide)
            rw [g18] at e18
            clear g18
            clear hn ho hu
            go_simp
            exact hK _ _ (keeps_refl _) hI rfl
          · intro hs; cases hs
          · intro hs; cases hs
          · intro hs; cases hs
          · intro hs; cases hs
          · intro hs; cases hs
          · intro hs; cases hs
          · intro hs; cases hs
          · intro hs; cases hs
          · intro hs; cases hs
          · intro hs; cases hs
          · intro hs; cases hs
          · intro hs; cases hs
          · intro hs; cases hs
          · intro hs; cases hs
          · intro hs; cases hs
          · intro hs; cases hs
          · intro _ a w1 vs hI ho hn hu K hK
            obtain ⟨e19, g19⟩ : a.tmps[19]? = some (vs 6) ∧ vs 6 = .bool true := hn 6 (by decide)
            rw [g19] at e19
            clear g19
            obtain ⟨e35, g35⟩ : a.tmps[35]? = some (vs 22) ∧ vs 22 = undef := hn 22 (by decide)
            rw [g35] at e35
            clear g35
            clear hn ho hu
            go_simp
            exact hK _ _ (keeps_refl _) hI rfl
        · intro vs wE hI hG
          have eL23 : vs 23 = .bool true := hG 23 (by decide)
          have HKE := Lib.hid hI
          clear hG hI
          simp only [setAll, Nat.zero_add, Nat.reduceAdd, List.setIfInBounds_toArray, List.set_cons_zero, List.set_cons_succ, eL23]
          clear eL23
          generalize vs 0 = y0 at *
          generalize vs 1 = y1 at *
          generalize vs 2 = y2 at *
          generalize vs 3 = y3 at *
          generalize vs 4 = y4 at *
          generalize vs 5 = y5 at *
          generalize vs 6 = y6 at *
          generalize vs 7 = y7 at *
          generalize vs 8 = y8 at *
          generalize vs 9 = y9 at *
          generalize vs 10 = y10 at *
          generalize vs 11 = y11 at *
          generalize vs 12 = y12 at *
          generalize vs 13 = y13 at *
          generalize vs 14 = y14 at *
          generalize vs 15 = y15 at *
          generalize vs 16 = y16 at *
          generalize vs 17 = y17 at *
          generalize vs 18 = y18 at *
          generalize vs 19 = y19 at *
          generalize vs 20 = y20 at *
          generalize vs 21 = y21 at *
          generalize vs 22 = y22 at *
          have HKW := Lib.hid (hK.out.trans HKE.out)
          clear HKE
          go_wp2_with fail
          go_ret
          exact ⟨by rw [HT2.out]; rfl, HKW.out⟩
      | true =>
        by_cases hk0 : k = 0
        · have HG : Hid (decide ((0 : Int) < (k : Int)) = false ∧ decide (0 < k) = false) := ⟨decide_eq_false (by omega), decide_eq_false (by omega)⟩
          have HN3 := Lib.hid (HN2.out (by rw [HOK.out, decide_eq_true hk0]; rfl))
          have HK0 := Lib.hid hk0
          clear hk0
          refine wp_region_stage [13, 14, 15, 16, 17, 18, 19, 20, 21, 22, 23, 24, 25, 26, 27, 28, 29, 30, 31, 32, 33, 34, 35, 36] [[], [], [0, 1], [2], [3], [4], [5], [6], [6, 7], [6, 8], [9], [9], [9], [9], [9], [9], [9], [9], [9], [9], [9], [9], [6, 9, 21], [6, 22]] [] [0, 0, 0, 0, 0, 0, 0, 0, 0, 0, 0, 0, 0, 0, 0, 0, 0, 0, 0, 0, 0, 0, 0, 0] [10, 11, 12, 13, 14, 15, 16, 17, 18, 19, 20, 21] (fun i v _ => rmyB b1 o1 l.length q k kp c.length qc n Pn d z pc i v) (fun w w' => Keeps w w') (fun _ _ w' => Keeps wr w') (by kernel_rfl) (by kernel_rfl) (by kernel_rfl) (by kernel_rfl) (by kernel_rfl) (by kernel_rfl) (by kernel_rfl) ?_ ?_ ?_ ?_ ?_ ?_ ?_
          · exact fun i v w w' c h => h
          · exact fun w => keeps_refl w
          · exact fun i s vs w _ h => h
          · refine ⟨?_, ?_, ?_, ?_, ?_, ?_, ?_, ?_, ?_, ?_, ?_, ?_, ?_, ?_, ?_, ?_, ?_, ?_, ?_, ?_, ?_, ?_, ?_, ?_, trivial⟩
            · exact fun g b h => by (cases h)
            · exact fun g b h => by (cases h)
            · exact fun g b h => by (cases h)
            · exact fun g b h => by (cases h)
            · exact fun g b h => by (cases h)
            · exact fun g b h => by (cases h)
            · exact fun g b h => by (cases h)
            · exact fun g b h => by (cases h; exact ⟨by decide, fun v w h => h⟩)
            · exact fun g b h => by (cases h; exact ⟨by decide, fun v w h => h⟩)
            · exact fun g b h => by (cases h; exact ⟨by decide, fun v w h => h⟩)
            · exact ⟨⟨_, _, rfl, by decide, fun v w h => by (first | (change v = _ at h; subst h; intro x; cases x) | skip)⟩, fun w => rfl⟩
            · exact ⟨⟨_, _, rfl, by decide, fun v w h => by (first | (change v = _ at h; subst h; intro x; cases x) | skip)⟩, fun w => rfl⟩
            · exact ⟨⟨_, _, rfl, by decide, fun v w h => by (first | (change v = _ at h; subst h; intro x; cases x) | skip)⟩, fun w => rfl⟩
            · exact ⟨⟨_, _, rfl, by decide, fun v w h => by (first | (change v = _ at h; subst h; intro x; cases x) | skip)⟩, fun w => rfl⟩
            · exact ⟨⟨_, _, rfl, by decide, fun v w h => by (first | (change v = _ at h; subst h; intro x; cases x) | skip)⟩, fun w => rfl⟩
            · exact ⟨⟨_, _, rfl, by decide, fun v w h => by (first | (change v = _ at h; subst h; intro x; cases x) | skip)⟩, fun w => rfl⟩
            · exact ⟨⟨_, _, rfl, by decide, fun v w h => by (first | (change v = _ at h; subst h; intro x; cases x) | skip)⟩, fun w => rfl⟩
            · exact ⟨⟨_, _, rfl, by decide, fun v w h => by (first | (change v = _ at h; subst h; intro x; cases x) | skip)⟩, fun w => rfl⟩
            · exact ⟨⟨_, _, rfl, by decide, fun v w h => by (first | (change v = _ at h; subst h; intro x; cases x) | skip)⟩, fun w => rfl⟩
            · exact ⟨⟨_, _, rfl, by decide, fun v w h => by (first | (change v = _ at h; subst h; intro x; cases x) | skip)⟩, fun w => rfl⟩
            · exact ⟨⟨_, _, rfl, by decide, fun v w h => by (first | (change v = _ at h; subst h; intro x; cases x) | skip)⟩, fun w => rfl⟩
            · exact ⟨⟨_, _, rfl, by decide, fun v w h => by (first | (change v = _ at h; subst h; intro x; cases x) | skip)⟩, fun w => rfl⟩
            · exact fun g b h => by (cases h; exact ⟨by decide, fun v w h => h⟩)
            · exact fun g b h => by (cases h)
          · exact fun _ _ => keeps_refl wr
          · refine ⟨?_, ?_, ?_, ?_, ?_, ?_, ?_, ?_, ?_, ?_, ?_, ?_, ?_, ?_, ?_, ?_, ?_, ?_, ?_, ?_, ?_, ?_, ?_, ?_, trivial⟩
            · intro _ a w1 vs hI ho hn hu K hK
              have e0 : a.tmps[0]? = some (.slice (some ⟨b1, o1, none⟩) l.length q) := ho 0 rfl
              clear hn ho hu
              go_simp
              exact hK _ _ (keeps_refl _) hI rfl
            · intro _ a w1 vs hI ho hn hu K hK
              have e3 : a.tmps[3]? = some (.int .i64 (k : Int)) := ho 3 rfl
              clear hn ho hu
              go_simp
              exact hK _ _ (keeps_refl _) hI rfl
            · intro _ a w1 vs hI ho hn hu K hK
              obtain ⟨e13, g13⟩ : a.tmps[13]? = some (vs 0) ∧ vs 0 = .slice (some ⟨b1, o1, none⟩) l.length q := hn 0 (by decide)
              rw [g13] at e13
              clear g13
              obtain ⟨e14, g14⟩ : a.tmps[14]? = some (vs 1) ∧ vs 1 = .int .i64 (k : Int) := hn 1 (by decide)
              rw [g14] at e14
              clear g14
              clear hn ho hu
              have i1 := HA.out.1
              have i2 := HA.out.2
              go_simp
              exact hK _ _ (keeps_refl _) hI rfl
            · intro _ a w1 vs hI ho hn hu K hK
              obtain ⟨e15, g15⟩ : a.tmps[15]? = some (vs 2) ∧ vs 2 = .pointer (some ⟨b1, o1 + k * 4, none⟩) := hn 2 (by decide)
              rw [g15] at e15
              clear g15
              clear hn ho hu
              have c0 := keeps_cell hI E0.out
              have c1 := keeps_cell hI E1.out
              have c2 := keeps_cell hI E2.out
              have c3 := keeps_cell hI E3.out
              go_simp
              exact hK _ _ (keeps_refl _) hI rfl
            · intro _ a w1 vs hI ho hn hu K hK
              obtain ⟨e16, g16⟩ : a.tmps[16]? = some (vs 3) ∧ vs 3 = .agg #[.string n, .bool d, .int .i64 z, .slice pc c.length qc] := hn 3 (by decide)
              rw [g16] at e16
              clear g16
              clear hn ho hu
              go_simp
              refine Calls.mono (HMAY.out _ (SeqAt.keeps HTX.out hI)) ?_
              rintro e w' ⟨rfl, hk2⟩
              go_simp
              exact hK _ _ hk2 (Keeps.trans hI hk2) rfl
            · intro _ a w1 vs hI ho hn hu K hK
              obtain ⟨e17, g17⟩ : a.tmps[17]? = some (vs 4) ∧ vs 4 = .bool true := hn 4 (by decide)
              rw [g17] at e17
              clear g17
              clear hn ho hu
              go_simp
              exact hK _ _ (keeps_refl _) hI rfl
            · intro _ a w1 vs hI ho hn hu K hK
              obtain ⟨e18, g18⟩ : a.tmps[18]? = some (vs 5) ∧ vs 5 = .bool false := hn 5 (by decide)
              rw [g18] at e18
              clear g18
              clear hn ho hu
              go_simp
              exact hK _ _ (keeps_refl _) hI rfl
            · intro _ a w1 vs hI ho hn hu K hK
              have e3 : a.tmps[3]? = some (.int .i64 (k : Int)) := ho 3 rfl
              clear hn ho hu
              go_simp
              exact hK _ _ (keeps_refl _) hI rfl
            · intro _ a w1 vs hI ho hn hu K hK
              obtain ⟨e20, g20⟩ : a.tmps[20]? = some (vs 7) ∧ vs 7 = .int .i64 (k : Int) := hn 7 (by decide)
              rw [g20] at e20
              clear g20
              clear hn ho hu
              have q1 := HG.out.1
              have q2 := HG.out.2
              go_simp
              exact hK _ _ (keeps_refl _) hI rfl
            · intro _ a w1 vs hI ho hn hu K hK
              obtain ⟨e21, g21⟩ : a.tmps[21]? = some (vs 8) ∧ vs 8 = .bool false := hn 8 (by decide)
              rw [g21] at e21
              clear g21
              clear hn ho hu
              go_simp
              exact hK _ _ (keeps_refl _) hI rfl
            · intro hs; cases hs
            · intro hs; cases hs
            · intro hs; cases hs
            · intro hs; cases hs
            · intro hs; cases hs
            · intro hs; cases hs
            · intro hs; cases hs
            · intro hs; cases hs
            · intro hs; cases hs
            · intro hs; cases hs
            · intro hs; cases hs
            · intro hs; cases hs
            · intro _ a w1 vs hI ho hn hu K hK
              obtain ⟨e22, g22⟩ : a.tmps[22]? = some (vs 9) ∧ vs 9 = .bool false := hn 9 (by decide)
              rw [g22] at e22
              clear g22
              obtain ⟨e34, g34⟩ : a.tmps[34]? = some (vs 21) ∧ vs 21 = undef := hn 21 (by decide)
              rw [g34] at e34
              clear g34
              clear hn ho hu
              go_simp
              exact hK _ _ (keeps_refl _) hI rfl
            · intro _ a w1 vs hI ho hn hu K hK
              obtain ⟨e19, g19⟩ : a.tmps[19]? = some (vs 6) ∧ vs 6 = .bool false := hn 6 (by decide)
              rw [g19] at e19
              clear g19
              obtain ⟨e35, g35⟩ : a.tmps[35]? = some (vs 22) ∧ vs 22 = .bool false := hn 22 (by decide)
              rw [g35] at e35
              clear g35
              clear hn ho hu
              go_simp
              exact hK _ _ (keeps_refl _) hI rfl
          · intro vs wE hI hG
            have eL23 : vs 23 = .bool false := hG 23 (by decide)
            have HKE := Lib.hid hI
            clear hG hI
            simp only [setAll, Nat.zero_add, Nat.reduceAdd, List.setIfInBounds_toArray, List.set_cons_zero, List.set_cons_succ, eL23]
            clear eL23
            generalize vs 0 = y0 at *
            generalize vs 1 = y1 at *
            generalize vs 2 = y2 at *
            generalize vs 3 = y3 at *
            generalize vs 4 = y4 at *
            generalize vs 5 = y5 at *
            generalize vs 6 = y6 at *
            generalize vs 7 = y7 at *
            generalize vs 8 = y8 at *
            generalize vs 9 = y9 at *
            generalize vs 10 = y10 at *
            generalize vs 11 = y11 at *
            generalize vs 12 = y12 at *
            generalize vs 13 = y13 at *
            generalize vs 14 = y14 at *
            generalize vs 15 = y15 at *
            generalize vs 16 = y16 at *
            generalize vs 17 = y17 at *
            generalize vs 18 = y18 at *
            generalize vs 19 = y19 at *
            generalize vs 20 = y20 at *
            generalize vs 21 = y21 at *
            generalize vs 22 = y22 at *
            have HKW := Lib.hid (hK.out.trans HKE.out)
            clear HKE
            go_wp2_with fail
            refine ⟨?_, by simp [intOf]; omega⟩
            first | exact ⟨k + 1, by omega, by go_num, HN3, HKW⟩ | ((repeat apply Exists.intro); exact ⟨⟨k + 1, by omega, by go_num, HN3, HKW⟩, rfl⟩)
        · have HG : Hid (decide ((0 : Int) < (k : Int)) = true ∧ decide (0 < k) = true) := ⟨decide_eq_true (by omega), decide_eq_true (by omega)⟩
          have HK0 := Lib.hid hk0
          clear hk0
          cases ls with
          | false =>
            have HT2 := Lib.hid (HF.out (by rw [HOK.out, decide_eq_false HK0.out]; rfl))
            refine wp_region_stage [13, 14, 15, 16, 17, 18, 19, 20, 21, 22, 23, 24, 25, 26, 27, 28, 29, 30, 31, 32, 33, 34, 35, 36] [[], [], [0, 1], [2], [3], [4], [5], [6], [6, 7], [6, 8], [9], [9], [9, 10, 11], [9, 12], [9, 13], [9], [9], [9, 16], [9, 15, 17], [9, 18], [9, 19], [9, 14, 20], [6, 9, 21], [6, 22]] [] [0, 0, 0, 0, 0, 0, 0, 0, 0, 0, 0, 0, 0, 0, 0, 0, 0, 0, 0, 0, 0, 0, 0, 0] [] (fun i v _ => rmyC b1 o1 l.length q k kp c.length qc n Pn d z pc i v) (fun w w' => Keeps w w') (fun _ _ w' => Keeps wr w') (by kernel_rfl) (by kernel_rfl) (by kernel_rfl) (by kernel_rfl) (by kernel_rfl) (by kernel_rfl) (by kernel_rfl) ?_ ?_ ?_ ?_ ?_ ?_ ?_
            · exact fun i v w w' c h => h
            · exact fun w => keeps_refl w
            · exact fun i s vs w _ h => h
            · refine ⟨?_, ?_, ?_, ?_, ?_, ?_, ?_, ?_, ?_, ?_, ?_, ?_, ?_, ?_, ?_, ?_, ?_, ?_, ?_, ?_, ?_, ?_, ?_, ?_, trivial⟩
              · exact fun g b h => by (cases h)
              · exact fun g b h => by (cases h)
              · exact fun g b h => by (cases h)
              · exact fun g b h => by (cases h)
              · exact fun g b h => by (cases h)
              · exact fun g b h => by (cases h)
              · exact fun g b h => by (cases h)
              · exact fun g b h => by (cases h; exact ⟨by decide, fun v w h => h⟩)
              · exact fun g b h => by (cases h; exact ⟨by decide, fun v w h => h⟩)
              · exact fun g b h => by (cases h; exact ⟨by decide, fun v w h => h⟩)
              · exact fun g b h => by (cases h; exact ⟨by decide, fun v w h => h⟩)
              · exact fun g b h => by (cases h; exact ⟨by decide, fun v w h => h⟩)
              · exact fun g b h => by (cases h; exact ⟨by decide, fun v w h => h⟩)
              · exact fun g b h => by (cases h; exact ⟨by decide, fun v w h => h⟩)
              · exact fun g b h => by (cases h; exact ⟨by decide, fun v w h => h⟩)
              · exact fun g b h => by (cases h; exact ⟨by decide, fun v w h => h⟩)
              · exact fun g b h => by (cases h; exact ⟨by decide, fun v w h => h⟩)
              · exact fun g b h => by (cases h; exact ⟨by decide, fun v w h => h⟩)
              · exact fun g b h => by (cases h; exact ⟨by decide, fun v w h => h⟩)
              · exact fun g b h => by (cases h; exact ⟨by decide, fun v w h => h⟩)
              · exact fun g b h => by (cases h; exact ⟨by decide, fun v w h => h⟩)
              · exact fun g b h => by (cases h; exact ⟨by decide, fun v w h => h⟩)
              · exact fun g b h => by (cases h; exact ⟨by decide, fun v w h => h⟩)
              · exact fun g b h => by (cases h)
            · exact fun _ _ => keeps_refl wr
            · refine ⟨?_, ?_, ?_, ?_, ?_, ?_, ?_, ?_, ?_, ?_, ?_, ?_, ?_, ?_, ?_, ?_, ?_, ?_, ?_, ?_, ?_, ?_, ?_, ?_, trivial⟩
              · intro _ a w1 vs hI ho hn hu K hK
                have e0 : a.tmps[0]? = some (.slice (some ⟨b1, o1, none⟩) l.length q) := ho 0 rfl
                clear hn ho hu
                go_simp
                exact hK _ _ (keeps_refl _) hI rfl
              · intro _ a w1 vs hI ho hn hu K hK
                have e3 : a.tmps[3]? = some (.int .i64 (k : Int)) := ho 3 rfl
                clear hn ho hu
                go_simp
                exact hK _ _ (keeps_refl _) hI rfl
              · intro _ a w1 vs hI ho hn hu K hK
                obtain ⟨e13, g13⟩ : a.tmps[13]? = some (vs 0) ∧ vs 0 = .slice (some ⟨b1, o1, none⟩) l.length q := hn 0 (by decide)
                rw [g13] at e13
                clear g13
                obtain ⟨e14, g14⟩ : a.tmps[14]? = some (vs 1) ∧ vs 1 = .int .i64 (k : Int) := hn 1 (by decide)
                rw [g14] at e14
                clear g14
                clear hn ho hu
                have i1 := HA.out.1
                have i2 := HA.out.2
                go_simp
                exact hK _ _ (keeps_refl _) hI rfl
              · intro _ a w1 vs hI ho hn hu K hK
                obtain ⟨e15, g15⟩ : a.tmps[15]? = some (vs 2) ∧ vs 2 = .pointer (some ⟨b1, o1 + k * 4, none⟩) := hn 2 (by decide)
                rw [g15] at e15
                clear g15
                clear hn ho hu
                have c0 := keeps_cell hI E0.out
                have c1 := keeps_cell hI E1.out
                have c2 := keeps_cell hI E2.out
                have c3 := keeps_cell hI E3.out
                go_simp
                exact hK _ _ (keeps_refl _) hI rfl
              · intro _ a w1 vs hI ho hn hu K hK
                obtain ⟨e16, g16⟩ : a.tmps[16]? = some (vs 3) ∧ vs 3 = .agg #[.string n, .bool d, .int .i64 z, .slice pc c.length qc] := hn 3 (by decide)
                rw [g16] at e16
                clear g16
                clear hn ho hu
                go_simp
                refine Calls.mono (HMAY.out _ (SeqAt.keeps HTX.out hI)) ?_
                rintro e w' ⟨rfl, hk2⟩
                go_simp
                exact hK _ _ hk2 (Keeps.trans hI hk2) rfl
              · intro _ a w1 vs hI ho hn hu K hK
                obtain ⟨e17, g17⟩ : a.tmps[17]? = some (vs 4) ∧ vs 4 = .bool true := hn 4 (by decide)
                rw [g17] at e17
                clear g17
                clear hn ho hu
                go_simp
                exact hK _ _ (keeps_refl _) hI rfl
              · intro _ a w1 vs hI ho hn hu K hK
                obtain ⟨e18, g18⟩ : a.tmps[18]? = some (vs 5) ∧ vs 5 = .bool false := hn 5 (by decide)
                rw [g18] at e18
                clear g18
                clear hn ho hu
                go_simp
                exact hK _ _ (keeps_refl _) hI rfl
              · intro _ a w1 vs hI ho hn hu K hK
                have e3 : a.tmps[3]? = some (.int .i64 (k : Int)) := ho 3 rfl
                clear hn ho hu
                go_simp
                exact hK _ _ (keeps_refl _) hI rfl
              · intro _ a w1 vs hI ho hn hu K hK
                obtain ⟨e20, g20⟩ : a.tmps[20]? = some (vs 7) ∧ vs 7 = .int .i64 (k : Int) := hn 7 (by decide)
                rw [g20] at e20
                clear g20
                clear hn ho hu
                have q1 := HG.out.1
                have q2 := HG.out.2
                go_simp
                exact hK _ _ (keeps_refl _) hI rfl
              · intro _ a w1 vs hI ho hn hu K hK
                obtain ⟨e21, g21⟩ : a.tmps[21]? = some (vs 8) ∧ vs 8 = .bool true := hn 8 (by decide)
                rw [g21] at e21
                clear g21
                clear hn ho hu
                go_simp
                exact hK _ _ (keeps_refl _) hI rfl
              · intro _ a w1 vs hI ho hn hu K hK
                have e0 : a.tmps[0]? = some (.slice (some ⟨b1, o1, none⟩) l.length q) := ho 0 rfl
                clear hn ho hu
                go_simp
                exact hK _ _ (keeps_refl _) hI rfl
              · intro _ a w1 vs hI ho hn hu K hK
                have e3 : a.tmps[3]? = some (.int .i64 (k : Int)) := ho 3 rfl
                clear hn ho hu
                go_simp
                exact hK _ _ (keeps_refl _) hI rfl
              · intro _ a w1 vs hI ho hn hu K hK
                obtain ⟨e23, g23⟩ : a.tmps[23]? = some (vs 10) ∧ vs 10 = .slice (some ⟨b1, o1, none⟩) l.length q := hn 10 (by decide)
                rw [g23] at e23
                clear g23
                obtain ⟨e24, g24⟩ : a.tmps[24]? = some (vs 11) ∧ vs 11 = .int .i64 (k : Int) := hn 11 (by decide)
                rw [g24] at e24
                clear g24
                clear hn ho hu
                have i1 := HA.out.1
                have i2 := HA.out.2
                go_simp
                exact hK _ _ (keeps_refl _) hI rfl
              · intro _ a w1 vs hI ho hn hu K hK
                obtain ⟨e25, g25⟩ : a.tmps[25]? = some (vs 12) ∧ vs 12 = .pointer (some ⟨b1, o1 + k * 4, none⟩) := hn 12 (by decide)
                rw [g25] at e25
                clear g25
                clear hn ho hu
                go_simp
                exact hK _ _ (keeps_refl _) hI rfl
              · intro _ a w1 vs hI ho hn hu K hK
                obtain ⟨e26, g26⟩ : a.tmps[26]? = some (vs 13) ∧ vs 13 = .pointer (some ⟨b1, o1 + k * 4, none⟩) := hn 13 (by decide)
                rw [g26] at e26
                clear g26
                clear hn ho hu
                have c0 := keeps_cell hI E0.out
                go_simp
                exact hK _ _ (keeps_refl _) hI rfl
              · intro _ a w1 vs hI ho hn hu K hK
                have e0 : a.tmps[0]? = some (.slice (some ⟨b1, o1, none⟩) l.length q) := ho 0 rfl
                clear hn ho hu
                go_simp
                exact hK _ _ (keeps_refl _) hI rfl
              · intro _ a w1 vs hI ho hn hu K hK
                have e3 : a.tmps[3]? = some (.int .i64 (k : Int)) := ho 3 rfl
                clear hn ho hu
                go_simp
                exact hK _ _ (keeps_refl _) hI rfl
              · intro _ a w1 vs hI ho hn hu K hK
                obtain ⟨e29, g29⟩ : a.tmps[29]? = some (vs 16) ∧ vs 16 = .int .i64 (k : Int) := hn 16 (by decide)
                rw [g29] at e29
                clear g29
                clear hn ho hu
                have q1 := HW.out.resolve_left HK0.out
                go_simp
                exact hK _ _ (keeps_refl _) hI rfl
              · intro _ a w1 vs hI ho hn hu K hK
                obtain ⟨e28, g28⟩ : a.tmps[28]? = some (vs 15) ∧ vs 15 = .slice (some ⟨b1, o1, none⟩) l.length q := hn 15 (by decide)
                rw [g28] at e28
                clear g28
                obtain ⟨e30, g30⟩ : a.tmps[30]? = some (vs 17) ∧ vs 17 = .int .i64 (kp : Int) := hn 17 (by decide)
                rw [g30] at e30
                clear g30
                clear hn ho hu
                have i1 := HB.out.1
                have i2 := HB.out.2
                go_simp
                exact hK _ _ (keeps_refl _) hI rfl
              · intro _ a w1 vs hI ho hn hu K hK
                obtain ⟨e31, g31⟩ : a.tmps[31]? = some (vs 18) ∧ vs 18 = .pointer (some ⟨b1, o1 + kp * 4, none⟩) := hn 18 (by decide)
                rw [g31] at e31
                clear g31
                clear hn ho hu
                go_simp
                exact hK _ _ (keeps_refl _) hI rfl
              · intro _ a w1 vs hI ho hn hu K hK
                obtain ⟨e32, g32⟩ : a.tmps[32]? = some (vs 19) ∧ vs 19 = .pointer (some ⟨b1, o1 + kp * 4, none⟩) := hn 19 (by decide)
                rw [g32] at e32
                clear g32
                clear hn ho hu
                have c0 := keeps_cell hI Q0.out
                go_simp
                exact hK _ _ (keeps_refl _) hI rfl
              · intro _ a w1 vs hI ho hn hu K hK
                obtain ⟨e27, g27⟩ : a.tmps[27]? = some (vs 14) ∧ vs 14 = .string n := hn 14 (by decide)
                rw [g27] at e27
                clear g27
                obtain ⟨e33, g33⟩ : a.tmps[33]? = some (vs 20) ∧ vs 20 = .string Pn := hn 20 (by decide)
                rw [g33] at e33
                clear g33
                clear hn ho hu
                have q1 := HGE.out
                go_simp
                exact hK _ _ (keeps_refl _) hI rfl
              · intro _ a w1 vs hI ho hn hu K hK
                obtain ⟨e22, g22⟩ : a.tmps[22]? = some (vs 9) ∧ vs 9 = .bool true := hn 9 (by decide)
                rw [g22] at e22
                clear g22
                obtain ⟨e34, g34⟩ : a.tmps[34]? = some (vs 21) ∧ vs 21 = .bool true := hn 21 (by decide)
                rw [g34] at e34
                clear g34
                clear hn ho hu
                go_simp
                exact hK _ _ (keeps_refl _) hI rfl
              · intro _ a w1 vs hI ho hn hu K hK
                obtain ⟨e19, g19⟩ : a.tmps[19]? = some (vs 6) ∧ vs 6 = .bool false := hn 6 (by decide)
                rw [g19] at e19
                clear g19
                obtain ⟨e35, g35⟩ : a.tmps[35]? = some (vs 22) ∧ vs 22 = .bool true := hn 22 (by decide)
                rw [g35] at e35
                clear g35
                clear hn ho hu
                go_simp
                exact hK _ _ (keeps_refl _) hI rfl
            · intro vs wE hI hG
              have eL23 : vs 23 = .bool true := hG 23 (by decide)
              have HKE := Lib.hid hI
              clear hG hI
              simp only [setAll, Nat.zero_add, Nat.reduceAdd, List.setIfInBounds_toArray, List.set_cons_zero, List.set_cons_succ, eL23]
              clear eL23
              generalize vs 0 = y0 at *
              generalize vs 1 = y1 at *
              generalize vs 2 = y2 at *
              generalize vs 3 = y3 at *
              generalize vs 4 = y4 at *
              generalize vs 5 = y5 at *
              generalize vs 6 = y6 at *
              generalize vs 7 = y7 at *
              generalize vs 8 = y8 at *
              generalize vs 9 = y9 at *
              generalize vs 10 = y10 at *
              generalize vs 11 = y11 at *
              generalize vs 12 = y12 at *
              generalize vs 13 = y13 at *
              generalize vs 14 = y14 at *
              generalize vs 15 = y15 at *
              generalize vs 16 = y16 at *
              generalize vs 17 = y17 at *
              generalize vs 18 = y18 at *
              generalize vs 19 = y19 at *
              generalize vs 20 = y20 at *
              generalize vs 21 = y21 at *
              generalize vs 22 = y22 at *
              have HKW := Lib.hid (hK.out.trans HKE.out)
              clear HKE
              go_wp2_with fail
              go_ret
              exact ⟨by rw [HT2.out]; rfl, HKW.out⟩
          | true =>
            have HN3 := Lib.hid (HN2.out (by rw [HOK.out]; simp))
            refine wp_region_stage [13, 14, 15, 16, 17, 18, 19, 20, 21, 22, 23, 24, 25, 26, 27, 28, 29, 30, 31, 32, 33, 34, 35, 36] [[], [], [0, 1], [2], [3], [4], [5], [6], [6, 7], [6, 8], [9], [9], [9, 10, 11], [9, 12], [9, 13], [9], [9], [9, 16], [9, 15, 17], [9, 18], [9, 19], [9, 14, 20], [6, 9, 21], [6, 22]] [] [0, 0, 0, 0, 0, 0, 0, 0, 0, 0, 0, 0, 0, 0, 0, 0, 0, 0, 0, 0, 0, 0, 0, 0] [] (fun i v _ => rmyD b1 o1 l.length q k kp c.length qc n Pn d z pc i v) (fun w w' => Keeps w w') (fun _ _ w' => Keeps wr w') (by kernel_rfl) (by kernel_rfl) (by kernel_rfl) (by kernel_rfl) (by kernel_rfl) (by kernel_rfl) (by kernel_rfl) ?_ ?_ ?_ ?_ ?_ ?_ ?_
            · exact fun i v w w' c h => h
            · exact fun w => keeps_refl w
            · exact fun i s vs w _ h => h
            · refine ⟨?_, ?_, ?_, ?_, ?_, ?_, ?_, ?_, ?_, ?_, ?_, ?_, ?_, ?_, ?_, ?_, ?_, ?_, ?_, ?_, ?_, ?_, ?_, ?_, trivial⟩
              · exact fun g b h => by (cases h)
              · exact fun g b h => by (cases h)
              · exact fun g b h => by (cases h)
              · exact fun g b h => by (cases h)
              · exact fun g b h => by (cases h)
              · exact fun g b h => by (cases h)
              · exact fun g b h => by (cases h)
              · exact fun g b h => by (cases h; exact ⟨by decide, fun v w h => h⟩)
              · exact fun g b h => by (cases h; exact ⟨by decide, fun v w h => h⟩)
              · exact fun g b h => by (cases h; exact ⟨by decide, fun v w h => h⟩)
              · exact fun g b h => by (cases h; exact ⟨by decide, fun v w h => h⟩)
              · exact fun g b h => by (cases h; exact ⟨by decide, fun v w h => h⟩)
              · exact fun g b h => by (cases h; exact ⟨by decide, fun v w h => h⟩)
              · exact fun g b h => by (cases h; exact ⟨by decide, fun v w h => h⟩)
              · exact fun g b h => by (cases h; exact ⟨by decide, fun v w h => h⟩)
              · exact fun g b h => by (cases h; exact ⟨by decide, fun v w h => h⟩)
              · exact fun g b h => by (cases h; exact ⟨by decide, fun v w h => h⟩)
              · exact fun g b h => by (cases h; exact ⟨by decide, fun v w h => h⟩)
              · exact fun g b h => by (cases h; exact ⟨by decide, fun v w h => h⟩)
              · exact fun g b h => by (cases h; exact ⟨by decide, fun v w h => h⟩)
              · exact fun g b h => by (cases h; exact ⟨by decide, fun v w h => h⟩)
              · exact fun g b h => by (cases h; exact ⟨by decide, fun v w h => h⟩)
              · exact fun g b h => by (cases h; exact ⟨by decide, fun v w h => h⟩)
              · exact fun g b h => by (cases h)
            · exact fun _ _ => keeps_refl wr
            · refine ⟨?_, ?_, ?_, ?_, ?_, ?_, ?_, ?_, ?_, ?_, ?_, ?_, ?_, ?_, ?_, ?_, ?_, ?_, ?_, ?_, ?_, ?_, ?_, ?_, trivial⟩
              · intro _ a w1 vs hI ho hn hu K hK
                have e0 : a.tmps[0]? = some (.slice (some ⟨b1, o1, none⟩) l.length q) := ho 0 rfl
                clear hn ho hu
                go_simp
                exact hK _ _ (keeps_refl _) hI rfl
              · intro _ a w1 vs hI ho hn hu K hK
                have e3 : a.tmps[3]? = some (.int .i64 (k : Int)) := ho 3 rfl
                clear hn ho hu
                go_simp
                exact hK _ _ (keeps_refl _) hI rfl
              · intro _ a w1 vs hI ho hn hu K hK
                obtain ⟨e13, g13⟩ : a.tmps[13]? = some (vs 0) ∧ vs 0 = .slice (some ⟨b1, o1, none⟩) l.length q := hn 0 (by decide)
                rw [g13] at e13
                clear g13
                obtain ⟨e14, g14⟩ : a.tmps[14]? = some (vs 1) ∧ vs 1 = .int .i64 (k : Int) := hn 1 (by decide)
                rw [g14] at e14
                clear g14
                clear hn ho hu
                have i1 := HA.out.1
                have i2 := HA.out.2
                go_simp
                exact hK _ _ (keeps_refl _) hI rfl
              · intro _ a w1 vs hI ho hn hu K hK
                obtain ⟨e15, g15⟩ : a.tmps[15]? = some (vs 2) ∧ vs 2 = .pointer (some ⟨b1, o1 + k * 4, none⟩) := hn 2 (by decide)
                rw [g15] at e15
                clear g15
                clear hn ho hu
                have c0 := keeps_cell hI E0.out
                have c1 := keeps_cell hI E1.out
                have c2 := keeps_cell hI E2.out
                have c3 := keeps_cell hI E3.out
                go_simp
                exact hK _ _ (keeps_refl _) hI rfl
              · intro _ a w1 vs hI ho hn hu K hK
                obtain ⟨e16, g16⟩ : a.tmps[16]? = some (vs 3) ∧ vs 3 = .agg #[.string n, .bool d, .int .i64 z, .slice pc c.length qc] := hn 3 (by decide)
                rw [g16] at e16
                clear g16
                clear hn ho hu
                go_simp
                refine Calls.mono (HMAY.out _ (SeqAt.keeps HTX.out hI)) ?_
                rintro e w' ⟨rfl, hk2⟩
                go_simp
                exact hK _ _ hk2 (Keeps.trans hI hk2) rfl
              · intro _ a w1 vs hI ho hn hu K hK
                obtain ⟨e17, g17⟩ : a.tmps[17]? = some (vs 4) ∧ vs 4 = .bool true := hn 4 (by decide)
                rw [g17] at e17
                clear g17
                clear hn ho hu
                go_simp
                exact hK _ _ (keeps_refl _) hI rfl
              · intro _ a w1 vs hI ho hn hu K hK
                obtain ⟨e18, g18⟩ : a.tmps[18]? = some (vs 5) ∧ vs 5 = .bool false := hn 5 (by decide)
                rw [g18] at e18
                clear g18
                clear hn ho hu
                go_simp
                exact hK _ _ (keeps_refl _) hI rfl
              · intro _ a w1 vs hI ho hn hu K hK
                have e3 : a.tmps[3]? = some (.int .i64 (k : Int)) := ho 3 rfl
                clear hn ho hu
                go_simp
                exact hK _ _ (keeps_refl _) hI rfl
              · intro _ a w1 vs hI ho hn hu K hK
                obtain ⟨e20, g20⟩ : a.tmps[20]? = some (vs 7) ∧ vs 7 = .int .i64 (k : Int) := hn 7 (by decide)
                rw [g20] at e20
                clear g20
                clear hn ho hu
                have q1 := HG.out.1
                have q2 := HG.out.2
                go_simp
                exact hK _ _ (keeps_refl _) hI rfl
              · intro _ a w1 vs hI ho hn hu K hK
                obtain ⟨e21, g21⟩ : a.tmps[21]? = some (vs 8) ∧ vs 8 = .bool true := hn 8 (by decide)
                rw [g21] at e21
                clear g21
                clear hn ho hu
                go_simp
                exact hK _ _ (keeps_refl _) hI rfl
              · intro _ a w1 vs hI ho hn hu K hK
                have e0 : a.tmps[0]? = some (.slice (some ⟨b1, o1, none⟩) l.length q) := ho 0 rfl
                clear hn ho hu
                go_simp
                exact hK _ _ (keeps_refl _) hI rfl
              · intro _ a w1 vs hI ho hn hu K hK
                have e3 : a.tmps[3]? = some (.int .i64 (k : Int)) := ho 3 rfl
                clear hn ho hu
                go_simp
                exact hK _ _ (keeps_refl _) hI rfl
              · intro _ a w1 vs hI ho hn hu K hK
                obtain ⟨e23, g23⟩ : a.tmps[23]? = some (vs 10) ∧ vs 10 = .slice (some ⟨b1, o1, none⟩) l.length q := hn 10 (by decide)
                rw [g23] at e23
                clear g23
                obtain ⟨e24, g24⟩ : a.tmps[24]? = some (vs 11) ∧ vs 11 = .int .i64 (k : Int) := hn 11 (by decide)
                rw [g24] at e24
                clear g24
                clear hn ho hu
                have i1 := HA.out.1
                have i2 := HA.out.2
                go_simp
                exact hK _ _ (keeps_refl _) hI rfl
              · intro _ a w1 vs hI ho hn hu K hK
                obtain ⟨e25, g25⟩ : a.tmps[25]? = some (vs 12) ∧ vs 12 = .pointer (some ⟨b1, o1 + k * 4, none⟩) := hn 12 (by decide)
                rw [g25] at e25
                clear g25
                clear hn ho hu
                go_simp
                exact hK _ _ (keeps_refl _) hI rfl
              · intro _ a w1 vs hI ho hn hu K hK
                obtain ⟨e26, g26⟩ : a.tmps[26]? = some (vs 13) ∧ vs 13 = .pointer (some ⟨b1, o1 + k * 4, none⟩) := hn 13 (by decide)
                rw [g26] at e26
                clear g26
                clear hn ho hu
                have c0 := keeps_cell hI E0.out
                go_simp
                exact hK _ _ (keeps_refl _) hI rfl
              · intro _ a w1 vs hI ho hn hu K hK
                have e0 : a.tmps[0]? = some (.slice (some ⟨b1, o1, none⟩) l.length q) := ho 0 rfl
                clear hn ho hu
                go_simp
                exact hK _ _ (keeps_refl _) hI rfl
              · intro _ a w1 vs hI ho hn hu K hK
                have e3 : a.tmps[3]? = some (.int .i64 (k : Int)) := ho 3 rfl
                clear hn ho hu
                go_simp
                exact hK _ _ (keeps_refl _) hI rfl
              · intro _ a w1 vs hI ho hn hu K hK
                obtain ⟨e29, g29⟩ : a.tmps[29]? = some (vs 16) ∧ vs 16 = .int .i64 (k : Int) := hn 16 (by decide)
                rw [g29] at e29
                clear g29
                clear hn ho hu
                have q1 := HW.out.resolve_left HK0.out
                go_simp
                exact hK _ _ (keeps_refl _) hI rfl
              · intro _ a w1 vs hI ho hn hu K hK
                obtain ⟨e28, g28⟩ : a.tmps[28]? = some (vs 15) ∧ vs 15 = .slice (some ⟨b1, o1, none⟩) l.length q := hn 15 (by decide)
                rw [g28] at e28
                clear g28
                obtain ⟨e30, g30⟩ : a.tmps[30]? = some (vs 17) ∧ vs 17 = .int .i64 (kp : Int) := hn 17 (by decide)
                rw [g30] at e30
                clear g30
                clear hn ho hu
                have i1 := HB.out.1
                have i2 := HB.out.2
                go_simp
                exact hK _ _ (keeps_refl _) hI rfl
              · intro _ a w1 vs hI ho hn hu K hK
                obtain ⟨e31, g31⟩ : a.tmps[31]? = some (vs 18) ∧ vs 18 = .pointer (some ⟨b1, o1 + kp * 4, none⟩) := hn 18 (by decide)
                rw [g31] at e31
                clear g31
                clear hn ho hu
                go_simp
                exact hK _ _ (keeps_refl _) hI rfl
              · intro _ a w1 vs hI ho hn hu K hK
                obtain ⟨e32, g32⟩ : a.tmps[32]? = some (vs 19) ∧ vs 19 = .pointer (some ⟨b1, o1 + kp * 4, none⟩) := hn 19 (by decide)
                rw [g32] at e32
                clear g32
                clear hn ho hu
                have c0 := keeps_cell hI Q0.out
                go_simp
                exact hK _ _ (keeps_refl _) hI rfl
              · intro _ a w1 vs hI ho hn hu K hK
                obtain ⟨e27, g27⟩ : a.tmps[27]? = some (vs 14) ∧ vs 14 = .string n := hn 14 (by decide)
                rw [g27] at e27
                clear g27
                obtain ⟨e33, g33⟩ : a.tmps[33]? = some (vs 20) ∧ vs 20 = .string Pn := hn 20 (by decide)
                rw [g33] at e33
                clear g33
                clear hn ho hu
                have q1 := HGE.out
                go_simp
                exact hK _ _ (keeps_refl _) hI rfl
              · intro _ a w1 vs hI ho hn hu K hK
                obtain ⟨e22, g22⟩ : a.tmps[22]? = some (vs 9) ∧ vs 9 = .bool true := hn 9 (by decide)
                rw [g22] at e22
                clear g22
                obtain ⟨e34, g34⟩ : a.tmps[34]? = some (vs 21) ∧ vs 21 = .bool false := hn 21 (by decide)
                rw [g34] at e34
                clear g34
                clear hn ho hu
                go_simp
                exact hK _ _ (keeps_refl _) hI rfl
              · intro _ a w1 vs hI ho hn hu K hK
                obtain ⟨e19, g19⟩ : a.tmps[19]? = some (vs 6) ∧ vs 6 = .bool false := hn 6 (by decide)
                rw [g19] at e19
                clear g19
                obtain ⟨e35, g35⟩ : a.tmps[35]? = some (vs 22) ∧ vs 22 = .bool false := hn 22 (by decide)
                rw [g35] at e35
                clear g35
                clear hn ho hu
                go_simp
                exact hK _ _ (keeps_refl _) hI rfl
            · intro vs wE hI hG
              have eL23 : vs 23 = .bool false := hG 23 (by decide)
              have HKE := Lib.hid hI
              clear hG hI
              simp only [setAll, Nat.zero_add, Nat.reduceAdd, List.setIfInBounds_toArray, List.set_cons_zero, List.set_cons_succ, eL23]
              clear eL23
              generalize vs 0 = y0 at *
              generalize vs 1 = y1 at *
              generalize vs 2 = y2 at *
              generalize vs 3 = y3 at *
              generalize vs 4 = y4 at *
              generalize vs 5 = y5 at *
              generalize vs 6 = y6 at *
              generalize vs 7 = y7 at *
              generalize vs 8 = y8 at *
              generalize vs 9 = y9 at *
              generalize vs 10 = y10 at *
              generalize vs 11 = y11 at *
              generalize vs 12 = y12 at *
              generalize vs 13 = y13 at *
              generalize vs 14 = y14 at *
              generalize vs 15 = y15 at *
              generalize vs 16 = y16 at *
              generalize vs 17 = y17 at *
              generalize vs 18 = y18 at *
              generalize vs 19 = y19 at *
              generalize vs 20 = y20 at *
              generalize vs 21 = y21 at *
              generalize vs 22 = y22 at *
              have HKW := Lib.hid (hK.out.trans HKE.out)
              clear HKE
              go_wp2_with fail
              refine ⟨?_, by simp [intOf]; omega⟩
              first | exact ⟨k + 1, by omega, by go_num, HN3, HKW⟩ | ((repeat apply Exists.intro); exact ⟨⟨k + 1, by omega, by go_num, HN3, HKW⟩, rfl⟩)
    · obtain rfl : k = l.length := by omega
      have HT : Hid (mayL l = true) := by
        show _ = _
        unfold mayL
        rw [List.all_eq_true.2 fun i hi => hN.out i (List.mem_range.1 hi), Bool.and_true]
        exact decide_eq_true hl256
      go_wp2_with fail
      go_ret
      exact ⟨by rw [HT.out]; rfl, hK.out⟩
end Go.Proofs.YtdpfanifagfciaaDoor
/- The walk of the reference's Make of law19. Printed by genrmk19.py. -/
namespace Go.Proofs.YtdpfanifagfciaaDoor
open Go.RowKit
attribute [local go_sem ↓] Go.wp_at_zero Go.wp_at_succ
theorem addr0 (g j : Nat) : (⟨g, 0, none⟩ : Addr).add j = ⟨g, j, none⟩ := by unfold Addr.add; split <;> simp_all
theorem own_litB (w : World) (base : Nat) (e : TypeId) (l : List Value) (hb : base ≤ w.heap.size) (hl : l.length ≤ 140737488351232) : (w.alloc (.cells ⟨l⟩ e)).ownsRow base e 1 (.slice (some ⟨w.heap.size, 0, none⟩) l.length l.length) l.length l :=
  ⟨by simp, .inr ⟨w.heap.size, l.length, ⟨l⟩, rfl, hb, by unfold World.alloc; simp, Nat.le_refl _, by unfold maxLen; omega, by simp, by simp⟩⟩
theorem wp_app_text {ops : Array Oper} {rest : List Oper} {o : Oper} {a : Act} {w : World} {Q : Exit → Act → World → Prop} (hgd : o.guard = none) (sl x : Operand) (ho : o.op = .call { callee := .builtin .append, args := #[sl, x], argTypes := #[45, 9] })
    (base : Nat) (v : Value) (L : List UInt8) (hs : a.eval sl = v) (hown : w.ownsRow base 5 1 v L.length (bytesV L)) (s : ByteArray) (hx : a.eval x = .string s) (hlen : L.length + s.size ≤ 140737488351232) (hbase : base ≤ w.heap.size)
    (h : ∀ v' w', w'.ownsRow base 5 1 v' (L ++ s.data.toList).length (bytesV (L ++ s.data.toList)) → Chg (fun k => v.ownBlock = some k) w w' → wpList Tryd.prog ops Q rest (a.put o.dst v') w') : wpList Tryd.prog ops Q (o :: rest) a w := by
  obtain ⟨i, h2, h3, h4, h5⟩ := info_parts elByte.hi
  refine Lib.wpList_append_own_string w hgd sl x 45 9 ho base 5 i Tryd.underlying45 Tryd.underlying9 h2 h3 h4 h5 v L.length (bytesV L) hs hown s hx (by unfold maxLen; omega) (by omega) hbase ?_
  intro v' w' h6 h7 _
  rw [show Lib.strCells s = bytesV s.data.toList from rfl] at h6
  have e : bytesV L ++ bytesV s.data.toList = bytesV (L ++ s.data.toList) := by unfold bytesV; rw [List.map_append]
  have e2 : L.length + s.size = (L ++ s.data.toList).length := by rw [List.length_append, data_size]
  rw [e, e2] at h6
  exact h v' w' h6 ((Chg.refl _ w).grown h7 fun k hk _ => hk)
/-- append of a literal of bytes onto a row of bytes of the call's own. -/
theorem wp_app_lit {ops : Array Oper} {rest : List Oper} {o : Oper} {a : Act} {wx : World} {Q : Exit → Act → World → Prop} (hgd : o.guard = none) (sl x : Operand) (ho : o.op = .call { callee := .builtin .append, args := #[sl, x], argTypes := #[45, 45] })
    (base : Nat) (v : Value) (L M : List UInt8) (cs : Array Value) (hs : a.eval sl = v) (hown : wx.ownsRow base 5 1 v L.length (bytesV L)) (hcs : cs.toList = bytesV M) (m : Nat) (hm : M.length = m) (hx : a.eval x = .slice (some ⟨wx.heap.size, 0, none⟩) m m) (hlen : L.length + M.length ≤ 140737488351232) (hbase : base ≤ wx.heap.size)
    (h : ∀ v' w', w'.ownsRow base 5 1 v' (L ++ M).length (bytesV (L ++ M)) → Chg (fun k => v.ownBlock = some k) wx w' → wpList Tryd.prog ops Q rest (a.put o.dst v') w') : wpList Tryd.prog ops Q (o :: rest) a (wx.alloc (.cells cs 5)) := by
  have hown2 : (wx.alloc (.cells cs 5)).ownsRow base 5 1 v (bytesV L).length (bytesV L) := by rw [bytesV_length]; exact hown.alloc _
  refine wp_apps elByte hgd sl x ho base v (bytesV L) hs hown2 wx.heap.size 0 m m (bytesV M) hx (by rw [bytesV_length, hm]) (fun j hj => ?_) (bytesV_one M) (by rw [bytesV_length, bytesV_length]; omega) (by rw [World.size_alloc]; omega) ?_
  · rw [Nat.zero_add, World.cell?_alloc_new, ← Array.getElem?_toList, hcs]
    exact List.getElem?_eq_getElem hj
  · intro v' w' h1 h2
    refine h v' w' ?_ (Chg.trans (Kept.any (kal _ _)) h2)
    have e : bytesV L ++ bytesV M = bytesV (L ++ M) := by unfold bytesV; rw [List.map_append]
    rw [e, bytesV_length, bytesV_length, ← List.length_append] at h1
    exact h1
theorem cells1 (n : Nat) (h : n < 256) : (#[.int .u8 (n : Int)] : Array Value).toList = bytesV (numB n 1) := by
  have e : (n : Int) = ((UInt8.ofNat n).toNat : Int) := by rw [UInt8.toNat_ofNat']; omega
  rw [numB_one]
  show [Value.int .u8 (n : Int)] = [Value.int .u8 ((UInt8.ofNat n).toNat : Int)]
  rw [← e]
theorem cells2 (n : Nat) (h : n < 65536) : (#[.int .u8 ((n : Int) / 256), .int .u8 ((n : Int) % 256)] : Array Value).toList = bytesV (numB n 2) := by
  have e1 : (n : Int) / 256 = ((UInt8.ofNat (n / 256)).toNat : Int) := by rw [UInt8.toNat_ofNat']; omega
  have e2 : (n : Int) % 256 = ((UInt8.ofNat n).toNat : Int) := by rw [UInt8.toNat_ofNat']; omega
  rw [numB_two, e1, e2]; rfl
theorem cells4 (n : Nat) (h : n ≤ 16384) : (#[.int .u8 0, .int .u8 ((n : Int) / 65536), .int .u8 ((n : Int) / 256 % 256), .int .u8 ((n : Int) % 256)] : Array Value).toList = bytesV (numB n 4) := by
  have e0 : (0 : Int) = ((UInt8.ofNat (n / 16777216)).toNat : Int) := by rw [UInt8.toNat_ofNat']; omega
  have e1 : (n : Int) / 65536 = ((UInt8.ofNat (n / 65536)).toNat : Int) := by rw [UInt8.toNat_ofNat']; omega
  have e2 : (n : Int) / 256 % 256 = ((UInt8.ofNat (n / 256)).toNat : Int) := by rw [UInt8.toNat_ofNat']; omega
  have e3 : (n : Int) % 256 = ((UInt8.ofNat n).toNat : Int) := by rw [UInt8.toNat_ofNat']; omega
  rw [numB_four]
  show [Value.int .u8 0, .int .u8 ((n : Int) / 65536), .int .u8 ((n : Int) / 256 % 256), .int .u8 ((n : Int) % 256)] = [Value.int .u8 ((UInt8.ofNat (n / 16777216)).toNat : Int), .int .u8 ((UInt8.ofNat (n / 65536)).toNat : Int), .int .u8 ((UInt8.ofNat (n / 256)).toNat : Int), .int .u8 ((UInt8.ofNat n).toNat : Int)]
  rw [← e0, ← e1, ← e2, ← e3]
theorem flatC_take {c : List ByteArray} {t : Nat} (h : t < c.length) : flatC (c.take (t + 1)) = flatC (c.take t) ++ (tAt c t).data.toList := by
  unfold flatC
  rw [tAt_eq h, List.take_succ_eq_append_getElem h, List.map_append, List.flatten_append]
  simp only [List.map_cons, List.map_nil, List.flatten_cons, List.flatten_nil, List.append_nil]
set_option maxRecDepth 100000 in
set_option maxHeartbeats 8000000 in
theorem rmake19_any (v : Value) (l : List EntR) (w : World) (h : EntsAt w.heap v l) (hs : ∀ x ∈ l, x.c.length ≤ 1000000 ∧ x.n.size ≤ 1000000) : Calls Tryd.prog 32 #[v] w fun e w' => e = .returned (.tuple #[.string (makeE l).1, .int .i64 (makeE l).2]) ∧ Keeps w w' := by
  obtain ⟨p, q, rfl⟩ := rec_shape h
  have H := Lib.hid h
  have HRM := Lib.hid (fun wx hk => rmay19_any (.slice p l.length q) l wx (EntsAt.keeps H.out hk) hs)
  clear h hs
  cases hm : mayL l with
  | false =>
    have HE : Hid (makeE l = (⟨#[]⟩, 4)) := makeE_no hm
    rw [hm] at HRM
    clear hm
    go_enter Tryd.func32, Tryd.ntmps32
    go_wp2_with fail
    refine Calls.mono (HRM.out _ (keeps_refl _)) ?_
    rintro e wm ⟨rfl, hk⟩
    go_wp2_with fail
    go_ret2
    rw [HE.out]
    exact ⟨rfl, hk⟩
  | true =>
  have hl256 : l.length ≤ 256 := (mayL_all hm).1
  have HM := Lib.hid hm
  have HTL := Lib.hid (makeTo_length hm)
  rw [hm] at HRM
  clear hm
  go_enter Tryd.func32, Tryd.ntmps32
  go_wp2_with fail
  refine Calls.mono (HRM.out _ (keeps_refl _)) ?_
  rintro e w1 ⟨rfl, hk1⟩
  have HK1 := Lib.hid hk1
  have hcv := Go.Joins.run_convert_bytes_const_at (P := Tryd.prog) w1 45 5 #[.int .u8 100, .int .u8 105, .int .u8 114, .int .u8 49] 4 4 w1.heap.size rfl Tryd.underlying45 (by kernel_rfl)
  have HC0 : Hid (∀ j u, (bytesV [100, 105, 114, 49])[j]? = some u → (w1.alloc (.cells #[.int .u8 100, .int .u8 105, .int .u8 114, .int .u8 49] 5 (4, 5))).cell? ⟨w1.heap.size, j, none⟩ = some u) := fun j u e => by
    rw [World.cell?_alloc_mark, ← e, ← Array.getElem?_toList]; rfl
  have HK2 : Hid (Keeps w (w1.alloc (.cells #[.int .u8 100, .int .u8 105, .int .u8 114, .int .u8 49] 5 (4, 5)))) := hk1.trans (kal _ _)
  have HZ2 : Hid ((w1.alloc (.cells #[.int .u8 100, .int .u8 105, .int .u8 114, .int .u8 49] 5 (4, 5))).heap.size = w1.heap.size + 1) := World.size_alloc _ _
  clear hk1 HRM HK1
  obtain ⟨ib, ib2, ib3, ib4, ib5⟩ := info_parts elByte.hi
  have HI2 := Lib.hid ib2
  have HI3 := Lib.hid ib3
  have HI4 := Lib.hid ib4
  have HI5 := Lib.hid ib5
  clear ib2 ib3 ib4 ib5
  go_wp2_with (at_builtin; refine frz ?_)
  unfold Frozen
  clear hcv
  generalize w1.alloc (.cells #[.int .u8 100, .int .u8 105, .int .u8 114, .int .u8 49] 5 (4, 5)) = w2 at *
  generalize w1.heap.size = N1 at *
  rw [← HZ2.out]
  clear HZ2
  refine wpList_append_grows _ rfl (.tmp 13) (.tmp 22) 45 rfl 5 ib (.int .u8 0) 1 1 Tryd.underlying45 HI2.out HI3.out HI4.out HI5.out rfl (by decide) (some ⟨N1, 0, none⟩) 4 4 (bytesV [100, 105, 114, 49]) rfl (fun e => by cases e) rfl (fun b e j u hj => by cases e; rw [addr0]; exact keeps_cell (kal _ _) (HC0.out j u hj)) ⟨w2.heap.size, 0, none⟩ 2 2 (bytesV (numB l.length 2)) rfl (by rw [bytesV_length, numB_length]) (fun j u hj => ?_) (bytesV_one _) (by decide) (by decide) (by decide) ?_
  · rw [addr0, World.cell?_alloc_new, ← hj, ← cells2 l.length (by omega), Array.getElem?_toList]
  intro v6 w3 ho hgr
  have hk3 : Keeps w2 w3 := (kal w2 _).trans (chg_kept (T := fun _ => False) ((Chg.refl _ _).grown hgr fun k hk _ => by cases hk) (fun _ _ x => x.elim) (Nat.le_refl _))
  obtain ⟨L0, hL0⟩ : ∃ L : List UInt8, L = [100, 105, 114, 49] ++ numB l.length 2 := ⟨_, rfl⟩
  have ho2 : w3.ownsRow w.heap.size 5 1 v6 L0.length (bytesV L0) := by
    have e1 : bytesV [100, 105, 114, 49] ++ bytesV (numB l.length 2) = bytesV L0 := by rw [hL0]; unfold bytesV; rw [List.map_append]
    have e2 : 4 + 2 = L0.length := by rw [hL0, List.length_append, numB_length]; rfl
    rw [e1, e2] at ho
    exact owns_mono ho (by rw [World.size_alloc]; have := HK2.out.size; omega)
  have HLT : Hid (L0 = makeTo l 0) := by show _ = _; rw [hL0]; unfold makeTo; simp
  have HO := Lib.hid ho2
  have HK : Hid (Keeps w w3) := HK2.out.trans hk3
  obtain ⟨pv9, qv9, rfl, _⟩ := own_sliceC ho2
  clear ho ho2 hgr hk3 HK2 HC0 HI2 HI3 HI4 HI5 hL0
  go_wp2_with fail
  go_loopw [4, 5] (fun vb i wr => ∃ (k : Nat) (L : List UInt8), k ≤ l.length ∧ i = .int .i64 k ∧ Hid (L = makeTo l k) ∧ Hid (wr.ownsRow w.heap.size 5 1 vb L.length (bytesV L)) ∧ Hid (Keeps w wr)) (fun _ i _ => l.length - (intOf i).toNat)
  case atStart => exact ⟨0, L0, by omega, rfl, HLT, HO, HK⟩
  case round =>
    clear HLT HO HK
    obtain ⟨k, L, hk, rfl, hL, hO, hK⟩ := hrel
    obtain ⟨pv, qv, rfl, _⟩ := own_sliceC hO.out
    have hlL : L.length ≤ 6 + k * 600000 := by rw [hL.out]; exact HTL.out k hk
    by_cases hlt : k < l.length
    · skip
      have hlt64 : (k : Int) < (l.length : Int) := by omega
      have hk0 : (0 : Int) ≤ (k : Int) := by omega
      obtain ⟨b1, o1, pc, qc, rfl, _, a0, a1, a2, a3, ht, _⟩ := ent_cell H.out hlt
      obtain ⟨n1, n2, n3, n4, n5⟩ := mayE_nums (mayL_at HM.out hlt)
      have HS : Hid (makeTo l (k + 1) = makeTo l k ++ entB (eAt l k)) := makeTo_succ hlt
      generalize eAt l k = X at *
      obtain ⟨xn, xd, xz, xc⟩ := X
      dsimp only at a0 a1 a2 a3 ht n1 n2 n3 n4 n5
      obtain ⟨zn, rfl⟩ := Int.eq_ofNat_of_zero_le n1
      have hzn : zn ≤ 16384 := by omega
      have HTX := Lib.hid ht
      have N5 := Lib.hid n5
      replace a0 := keeps_cell hK.out a0
      replace a1 := keeps_cell hK.out a1
      replace a2 := keeps_cell hK.out a2
      replace a3 := keeps_cell hK.out a3
      have HON := Lib.hid (entA_one xn xd (zn : Int) pc xc.length qc)
      clear ht n1 n2 n5
      go_upto_region 9 with (refine wpList_store_row rfl 40 (.tmp 6) (.tmp 33) rfl wr.heap.size #[.string xn, .bool xd, .int .i64 (zn : Int), .slice pc xc.length qc] rfl rfl 40 _ (heap_alloc_last wr _) (by kernel_rfl) rfl HON.out ?_; rw [World.setRow_alloc_new])
      clear a0 a1 a2 a3 HON
      have HO : Hid ((wr.alloc (.cells #[.string xn, .bool xd, .int .i64 (zn : Int), .slice pc xc.length qc] 40)).ownsRow w.heap.size 5 1 (.slice pv L.length qv) L.length (bytesV L)) := hO.out.alloc _
      have HK : Hid (Keeps w (wr.alloc (.cells #[.string xn, .bool xd, .int .i64 (zn : Int), .slice pc xc.length qc] 40))) := hK.out.trans (kal _ _)
      have HB : Hid (BlkAt (wr.alloc (.cells #[.string xn, .bool xd, .int .i64 (zn : Int), .slice pc xc.length qc] 40)) wr.heap.size 40 #[.string xn, .bool xd, .int .i64 (zn : Int), .slice pc xc.length qc]) := BlkAt.new wr _ _
      clear hO hK
      generalize wr.alloc (.cells #[.string xn, .bool xd, .int .i64 (zn : Int), .slice pc xc.length qc] 40) = w3 at *
      generalize wr.heap.size = N9 at *
      have x1 := HB.out.cell (i := 1) rfl
      cases xd with
      | true =>
        go_wp2_with (at_builtin; refine frz ?_)
        unfold Frozen
        refine wp_app_lit rfl (.tmp 36) (.tmp 37) rfl w.heap.size _ L (numB 1 1) _ rfl HO.out (cells1 1 (by decide)) _ (numB_length _ _) rfl (by rw [numB_length]; omega) HK.out.size ?_
        intro v6 wb11 ho hc
        have HB9 : Hid (BlkAt wb11 N9 40 #[.string xn, .bool true, .int .i64 (zn : Int), .slice pc xc.length qc]) := HB.out.chg hc (own_typeT HO.out HB.out.typ (by decide))
        clear HB
        have HB := HB9
        clear HB9
        have HK9 : Hid (Keeps w wb11) := HK.out.then (chg_kept (B := w.heap.size) hc (fun q _ e => (own_block HO.out q e).1) HK.out.size) (Nat.le_refl _)
        obtain ⟨L111, hL111⟩ : ∃ Lq : List UInt8, Lq = L ++ numB 1 1 := ⟨_, rfl⟩
        rw [← hL111] at ho
        have hlL111 : L111.length ≤ L.length + (numB 1 1).length := by rw [hL111, List.length_append]; exact Nat.le_refl _
        have HLL111 := Lib.hid hL111
        obtain ⟨pv9, qv9, rfl, _⟩ := own_sliceC ho
        clear HO HK hc hL111
        have HO := Lib.hid ho
        have HK := HK9
        clear ho HK9
        rw [numB_length] at hlL111
        clear x1
        have x0 := HB.out.cell (i := 0) rfl
        have x2 := HB.out.cell (i := 2) rfl
        have x3 := HB.out.cell (i := 3) rfl
        go_wp2_with (at_builtin; refine frz ?_)
        unfold Frozen
        refine wp_app_lit rfl (.tmp 42) (.tmp 47) rfl w.heap.size _ L111 (numB xn.size 1) _ rfl HO.out (cells1 xn.size (by omega)) _ (numB_length _ _) rfl (by rw [numB_length]; omega) HK.out.size ?_
        intro v6 wb12 ho hc
        have HB9 : Hid (BlkAt wb12 N9 40 #[.string xn, .bool true, .int .i64 (zn : Int), .slice pc xc.length qc]) := HB.out.chg hc (own_typeT HO.out HB.out.typ (by decide))
        clear HB
        have HB := HB9
        clear HB9
        have HK9 : Hid (Keeps w wb12) := HK.out.then (chg_kept (B := w.heap.size) hc (fun q _ e => (own_block HO.out q e).1) HK.out.size) (Nat.le_refl _)
        obtain ⟨L112, hL112⟩ : ∃ Lq : List UInt8, Lq = L111 ++ numB xn.size 1 := ⟨_, rfl⟩
        rw [← hL112] at ho
        have hlL112 : L112.length ≤ L111.length + (numB xn.size 1).length := by rw [hL112, List.length_append]; exact Nat.le_refl _
        have HLL112 := Lib.hid hL112
        obtain ⟨pv9, qv9, rfl, _⟩ := own_sliceC ho
        clear HO HK hc hL112
        have HO := Lib.hid ho
        have HK := HK9
        clear ho HK9
        rw [numB_length] at hlL112
        clear x0 x2 x3
        have x0 := HB.out.cell (i := 0) rfl
        have x2 := HB.out.cell (i := 2) rfl
        have x3 := HB.out.cell (i := 3) rfl
        go_wp2_with (at_builtin; refine frz ?_)
        unfold Frozen
        refine wp_app_text rfl (.tmp 49) (.tmp 51) rfl w.heap.size _ L112 rfl HO.out xn rfl (by omega) HK.out.size ?_
        intro v6 wb13 ho hc
        have HB9 : Hid (BlkAt wb13 N9 40 #[.string xn, .bool true, .int .i64 (zn : Int), .slice pc xc.length qc]) := HB.out.chg hc (own_typeT HO.out HB.out.typ (by decide))
        clear HB
        have HB := HB9
        clear HB9
        have HK9 : Hid (Keeps w wb13) := HK.out.then (chg_kept (B := w.heap.size) hc (fun q _ e => (own_block HO.out q e).1) HK.out.size) (Nat.le_refl _)
        obtain ⟨L113, hL113⟩ : ∃ Lq : List UInt8, Lq = L112 ++ xn.data.toList := ⟨_, rfl⟩
        rw [← hL113] at ho
        have hlL113 : L113.length ≤ L112.length + (xn.data.toList).length := by rw [hL113, List.length_append]; exact Nat.le_refl _
        have HLL113 := Lib.hid hL113
        obtain ⟨pv9, qv9, rfl, _⟩ := own_sliceC ho
        clear HO HK hc hL113
        have HO := Lib.hid ho
        have HK := HK9
        clear ho HK9
        rw [data_size] at hlL113
        clear x0 x2 x3
        have x0 := HB.out.cell (i := 0) rfl
        have x2 := HB.out.cell (i := 2) rfl
        have x3 := HB.out.cell (i := 3) rfl
        go_wp2_with (at_builtin; refine frz ?_)
        unfold Frozen
        refine wp_app_lit rfl (.tmp 53) (.tmp 67) rfl w.heap.size _ L113 (numB zn 4) _ rfl HO.out (cells4 zn (by omega)) _ (numB_length _ _) rfl (by rw [numB_length]; omega) HK.out.size ?_
        intro v6 wb14 ho hc
        have HB9 : Hid (BlkAt wb14 N9 40 #[.string xn, .bool true, .int .i64 (zn : Int), .slice pc xc.length qc]) := HB.out.chg hc (own_typeT HO.out HB.out.typ (by decide))
        clear HB
        have HB := HB9
        clear HB9
        have HK9 : Hid (Keeps w wb14) := HK.out.then (chg_kept (B := w.heap.size) hc (fun q _ e => (own_block HO.out q e).1) HK.out.size) (Nat.le_refl _)
        obtain ⟨L114, hL114⟩ : ∃ Lq : List UInt8, Lq = L113 ++ numB zn 4 := ⟨_, rfl⟩
        rw [← hL114] at ho
        have hlL114 : L114.length ≤ L113.length + (numB zn 4).length := by rw [hL114, List.length_append]; exact Nat.le_refl _
        have HLL114 := Lib.hid hL114
        obtain ⟨pv9, qv9, rfl, _⟩ := own_sliceC ho
        clear HO HK hc hL114
        have HO := Lib.hid ho
        have HK := HK9
        clear ho HK9
        rw [numB_length] at hlL114
        clear x0 x2 x3
        have x0 := HB.out.cell (i := 0) rfl
        have x2 := HB.out.cell (i := 2) rfl
        have x3 := HB.out.cell (i := 3) rfl
        go_wp2_with (at_builtin; refine frz ?_)
        unfold Frozen
        refine wp_app_lit rfl (.tmp 69) (.tmp 80) rfl w.heap.size _ L114 (numB xc.length 2) _ rfl HO.out (cells2 xc.length (by omega)) _ (numB_length _ _) rfl (by rw [numB_length]; omega) HK.out.size ?_
        intro v6 wb15 ho hc
        have HB9 : Hid (BlkAt wb15 N9 40 #[.string xn, .bool true, .int .i64 (zn : Int), .slice pc xc.length qc]) := HB.out.chg hc (own_typeT HO.out HB.out.typ (by decide))
        clear HB
        have HB := HB9
        clear HB9
        have HK9 : Hid (Keeps w wb15) := HK.out.then (chg_kept (B := w.heap.size) hc (fun q _ e => (own_block HO.out q e).1) HK.out.size) (Nat.le_refl _)
        obtain ⟨L115, hL115⟩ : ∃ Lq : List UInt8, Lq = L114 ++ numB xc.length 2 := ⟨_, rfl⟩
        rw [← hL115] at ho
        have hlL115 : L115.length ≤ L114.length + (numB xc.length 2).length := by rw [hL115, List.length_append]; exact Nat.le_refl _
        have HLL115 := Lib.hid hL115
        obtain ⟨pv9, qv9, rfl, _⟩ := own_sliceC ho
        clear HO HK hc hL115
        have HO := Lib.hid ho
        have HK := HK9
        clear ho HK9
        rw [numB_length] at hlL115
        clear x0 x2 x3
        have HPRE : Hid (L115 ++ flatC xc = makeTo l (k + 1)) := by
          show _ = _
          rw [HS.out, HLL115.out, HLL114.out, HLL113.out, HLL112.out, HLL111.out, hL.out]
          unfold entB kindB
          simp
        clear HLL111 HLL112 HLL113 HLL114 HLL115 HS hL
        have hlP : L115.length ≤ 200000000 := by omega
        clear hlL111 hlL112 hlL113 hlL114 hlL115
        generalize L115 = L9 at *
        go_wp2_with fail
        go_loopw [4, 7] (fun vb i wx => ∃ (t : Nat) (L : List UInt8), t ≤ xc.length ∧ i = .int .i64 t ∧ Hid (L = L9 ++ flatC (xc.take t)) ∧ L.length ≤ 200000000 + 32 * t ∧ Hid (wx.ownsRow w.heap.size 5 1 vb L.length (bytesV L)) ∧ Hid (BlkAt wx N9 40 #[.string xn, .bool true, .int .i64 (zn : Int), .slice pc xc.length qc]) ∧ Hid (Keeps w wx)) (fun _ i _ => xc.length - (intOf i).toNat)
        case atStart => exact ⟨0, L9, by omega, rfl, by show _ = _; simp [flatC], by omega, HO, HB, HK⟩
        case round =>
          clear HO HB HK
          obtain ⟨t, LI, ht, rfl, hLI, hlI, HO, HB, HK⟩ := hrel
          obtain ⟨pw, qw, rfl, _⟩ := own_sliceC HO.out
          have x3 := HB.out.cell (i := 3) rfl
          by_cases htl : t < xc.length
          · have t1 : (t : Int) < (xc.length : Int) := by omega
            have t0 : (0 : Int) ≤ (t : Int) := by omega
            obtain ⟨bx, ox, rfl, d1⟩ := text_cell (SeqAt.keeps HTX.out HK.out) htl
            have hz : (tAt xc t).size = 32 := N5.out _ (by rw [tAt_eq htl]; exact List.getElem_mem htl)
            have HF : Hid (LI ++ (tAt xc t).data.toList = L9 ++ flatC (xc.take (t + 1))) := by show _ = _; rw [flatC_take htl, hLI.out, List.append_assoc]
            generalize tAt xc t = S1 at *
            go_wp2_with (at_builtin; refine frz ?_)
            unfold Frozen
            refine wp_app_text rfl (.tmp 89) (.tmp 94) rfl w.heap.size _ LI rfl HO.out S1 rfl (by omega) HK.out.size ?_
            intro v6 w6 ho hc
            have HB9 := Lib.hid (HB.out.chg hc (own_typeT HO.out HB.out.typ (by decide)))
            have HK9 : Hid (Keeps w w6) := HK.out.then (chg_kept (B := w.heap.size) hc (fun q _ e => (own_block HO.out q e).1) HK.out.size) (Nat.le_refl _)
            have HO9 := Lib.hid ho
            have hl9 : (LI ++ S1.data.toList).length ≤ 200000000 + 32 * (t + 1) := by rw [List.length_append, data_size]; omega
            clear ho hc
            obtain ⟨pu, qu, rfl, _⟩ := own_sliceC HO9.out
            generalize LI ++ S1.data.toList = L2 at *
            go_wp2_with fail
            refine ⟨?_, by simp [intOf]; omega⟩
            first | exact ⟨t + 1, L2, by omega, by go_num, HF, hl9, HO9, HB9, HK9⟩ | ((repeat apply Exists.intro); exact ⟨⟨t + 1, L2, by omega, by go_num, HF, hl9, HO9, HB9, HK9⟩, rfl⟩)
          · obtain rfl : t = xc.length := by omega
            have HL8 : Hid (LI = makeTo l (k + 1)) := by show _ = _; rw [hLI.out, List.take_length]; exact HPRE.out
            go_wp2_with fail
            refine ⟨?_, by simp [intOf]; omega⟩
            first | exact ⟨k + 1, LI, by omega, by go_num, HL8, HO, HK⟩ | ((repeat apply Exists.intro); exact ⟨⟨k + 1, LI, by omega, by go_num, HL8, HO, HK⟩, rfl⟩)
      | false =>
        go_wp2_with (at_builtin; refine frz ?_)
        unfold Frozen
        refine wp_app_lit rfl (.tmp 39) (.tmp 40) rfl w.heap.size _ L (numB 0 1) _ rfl HO.out (cells1 0 (by decide)) _ (numB_length _ _) rfl (by rw [numB_length]; omega) HK.out.size ?_
        intro v6 wb41 ho hc
        have HB9 : Hid (BlkAt wb41 N9 40 #[.string xn, .bool false, .int .i64 (zn : Int), .slice pc xc.length qc]) := HB.out.chg hc (own_typeT HO.out HB.out.typ (by decide))
        clear HB
        have HB := HB9
        clear HB9
        have HK9 : Hid (Keeps w wb41) := HK.out.then (chg_kept (B := w.heap.size) hc (fun q _ e => (own_block HO.out q e).1) HK.out.size) (Nat.le_refl _)
        obtain ⟨L141, hL141⟩ : ∃ Lq : List UInt8, Lq = L ++ numB 0 1 := ⟨_, rfl⟩
        rw [← hL141] at ho
        have hlL141 : L141.length ≤ L.length + (numB 0 1).length := by rw [hL141, List.length_append]; exact Nat.le_refl _
        have HLL141 := Lib.hid hL141
        obtain ⟨pv9, qv9, rfl, _⟩ := own_sliceC ho
        clear HO HK hc hL141
        have HO := Lib.hid ho
        have HK := HK9
        clear ho HK9
        rw [numB_length] at hlL141
        clear x1
        have x0 := HB.out.cell (i := 0) rfl
        have x2 := HB.out.cell (i := 2) rfl
        have x3 := HB.out.cell (i := 3) rfl
        go_wp2_with (at_builtin; refine frz ?_)
        unfold Frozen
        refine wp_app_lit rfl (.tmp 42) (.tmp 47) rfl w.heap.size _ L141 (numB xn.size 1) _ rfl HO.out (cells1 xn.size (by omega)) _ (numB_length _ _) rfl (by rw [numB_length]; omega) HK.out.size ?_
        intro v6 wb42 ho hc
        have HB9 : Hid (BlkAt wb42 N9 40 #[.string xn, .bool false, .int .i64 (zn : Int), .slice pc xc.length qc]) := HB.out.chg hc (own_typeT HO.out HB.out.typ (by decide))
        clear HB
        have HB := HB9
        clear HB9
        have HK9 : Hid (Keeps w wb42) := HK.out.then (chg_kept (B := w.heap.size) hc (fun q _ e => (own_block HO.out q e).1) HK.out.size) (Nat.le_refl _)
        obtain ⟨L142, hL142⟩ : ∃ Lq : List UInt8, Lq = L141 ++ numB xn.size 1 := ⟨_, rfl⟩
        rw [← hL142] at ho
        have hlL142 : L142.length ≤ L141.length + (numB xn.size 1).length := by rw [hL142, List.length_append]; exact Nat.le_refl _
        have HLL142 := Lib.hid hL142
        obtain ⟨pv9, qv9, rfl, _⟩ := own_sliceC ho
        clear HO HK hc hL142
        have HO := Lib.hid ho
        have HK := HK9
        clear ho HK9
        rw [numB_length] at hlL142
        clear x0 x2 x3
        have x0 := HB.out.cell (i := 0) rfl
        have x2 := HB.out.cell (i := 2) rfl
        have x3 := HB.out.cell (i := 3) rfl
        go_wp2_with (at_builtin; refine frz ?_)
        unfold Frozen
        refine wp_app_text rfl (.tmp 49) (.tmp 51) rfl w.heap.size _ L142 rfl HO.out xn rfl (by omega) HK.out.size ?_
        intro v6 wb43 ho hc
        have HB9 : Hid (BlkAt wb43 N9 40 #[.string xn, .bool false, .int .i64 (zn : Int), .slice pc xc.length qc]) := HB.out.chg hc (own_typeT HO.out HB.out.typ (by decide))
        clear HB
        have HB := HB9
        clear HB9
        have HK9 : Hid (Keeps w wb43) := HK.out.then (chg_kept (B := w.heap.size) hc (fun q _ e => (own_block HO.out q e).1) HK.out.size) (Nat.le_refl _)
        obtain ⟨L143, hL143⟩ : ∃ Lq : List UInt8, Lq = L142 ++ xn.data.toList := ⟨_, rfl⟩
        rw [← hL143] at ho
        have hlL143 : L143.length ≤ L142.length + (xn.data.toList).length := by rw [hL143, List.length_append]; exact Nat.le_refl _
        have HLL143 := Lib.hid hL143
        obtain ⟨pv9, qv9, rfl, _⟩ := own_sliceC ho
        clear HO HK hc hL143
        have HO := Lib.hid ho
        have HK := HK9
        clear ho HK9
        rw [data_size] at hlL143
        clear x0 x2 x3
        have x0 := HB.out.cell (i := 0) rfl
        have x2 := HB.out.cell (i := 2) rfl
        have x3 := HB.out.cell (i := 3) rfl
        go_wp2_with (at_builtin; refine frz ?_)
        unfold Frozen
        refine wp_app_lit rfl (.tmp 53) (.tmp 67) rfl w.heap.size _ L143 (numB zn 4) _ rfl HO.out (cells4 zn (by omega)) _ (numB_length _ _) rfl (by rw [numB_length]; omega) HK.out.size ?_
        intro v6 wb44 ho hc
        have HB9 : Hid (BlkAt wb44 N9 40 #[.string xn, .bool false, .int .i64 (zn : Int), .slice pc xc.length qc]) := HB.out.chg hc (own_typeT HO.out HB.out.typ (by decide))
        clear HB
        have HB := HB9
        clear HB9
        have HK9 : Hid (Keeps w wb44) := HK.out.then (chg_kept (B := w.heap.size) hc (fun q _ e => (own_block HO.out q e).1) HK.out.size) (Nat.le_refl _)
        obtain ⟨L144, hL144⟩ : ∃ Lq : List UInt8, Lq = L143 ++ numB zn 4 := ⟨_, rfl⟩
        rw [← hL144] at ho
        have hlL144 : L144.length ≤ L143.length + (numB zn 4).length := by rw [hL144, List.length_append]; exact Nat.le_refl _
        have HLL144 := Lib.hid hL144
        obtain ⟨pv9, qv9, rfl, _⟩ := own_sliceC ho
        clear HO HK hc hL144
        have HO := Lib.hid ho
        have HK := HK9
        clear ho HK9
        rw [numB_length] at hlL144
        clear x0 x2 x3
        have x0 := HB.out.cell (i := 0) rfl
        have x2 := HB.out.cell (i := 2) rfl
        have x3 := HB.out.cell (i := 3) rfl
        go_wp2_with (at_builtin; refine frz ?_)
        unfold Frozen
        refine wp_app_lit rfl (.tmp 69) (.tmp 80) rfl w.heap.size _ L144 (numB xc.length 2) _ rfl HO.out (cells2 xc.length (by omega)) _ (numB_length _ _) rfl (by rw [numB_length]; omega) HK.out.size ?_
        intro v6 wb45 ho hc
        have HB9 : Hid (BlkAt wb45 N9 40 #[.string xn, .bool false, .int .i64 (zn : Int), .slice pc xc.length qc]) := HB.out.chg hc (own_typeT HO.out HB.out.typ (by decide))
        clear HB
        have HB := HB9
        clear HB9
        have HK9 : Hid (Keeps w wb45) := HK.out.then (chg_kept (B := w.heap.size) hc (fun q _ e => (own_block HO.out q e).1) HK.out.size) (Nat.le_refl _)
        obtain ⟨L145, hL145⟩ : ∃ Lq : List UInt8, Lq = L144 ++ numB xc.length 2 := ⟨_, rfl⟩
        rw [← hL145] at ho
        have hlL145 : L145.length ≤ L144.length + (numB xc.length 2).length := by rw [hL145, List.length_append]; exact Nat.le_refl _
        have HLL145 := Lib.hid hL145
        obtain ⟨pv9, qv9, rfl, _⟩ := own_sliceC ho
        clear HO HK hc hL145
        have HO := Lib.hid ho
        have HK := HK9
        clear ho HK9
        rw [numB_length] at hlL145
        clear x0 x2 x3
        have HPRE : Hid (L145 ++ flatC xc = makeTo l (k + 1)) := by
          show _ = _
          rw [HS.out, HLL145.out, HLL144.out, HLL143.out, HLL142.out, HLL141.out, hL.out]
          unfold entB kindB
          simp
        clear HLL141 HLL142 HLL143 HLL144 HLL145 HS hL
        have hlP : L145.length ≤ 200000000 := by omega
        clear hlL141 hlL142 hlL143 hlL144 hlL145
        generalize L145 = L9 at *
        go_wp2_with fail
        go_loopw [4, 7] (fun vb i wx => ∃ (t : Nat) (L : List UInt8), t ≤ xc.length ∧ i = .int .i64 t ∧ Hid (L = L9 ++ flatC (xc.take t)) ∧ L.length ≤ 200000000 + 32 * t ∧ Hid (wx.ownsRow w.heap.size 5 1 vb L.length (bytesV L)) ∧ Hid (BlkAt wx N9 40 #[.string xn, .bool false, .int .i64 (zn : Int), .slice pc xc.length qc]) ∧ Hid (Keeps w wx)) (fun _ i _ => xc.length - (intOf i).toNat)
        case atStart => exact ⟨0, L9, by omega, rfl, by show _ = _; simp [flatC], by omega, HO, HB, HK⟩
        case round =>
          clear HO HB HK
          obtain ⟨t, LI, ht, rfl, hLI, hlI, HO, HB, HK⟩ := hrel
          obtain ⟨pw, qw, rfl, _⟩ := own_sliceC HO.out
          have x3 := HB.out.cell (i := 3) rfl
          by_cases htl : t < xc.length
          · have t1 : (t : Int) < (xc.length : Int) := by omega
            have t0 : (0 : Int) ≤ (t : Int) := by omega
            obtain ⟨bx, ox, rfl, d1⟩ := text_cell (SeqAt.keeps HTX.out HK.out) htl
            have hz : (tAt xc t).size = 32 := N5.out _ (by rw [tAt_eq htl]; exact List.getElem_mem htl)
            have HF : Hid (LI ++ (tAt xc t).data.toList = L9 ++ flatC (xc.take (t + 1))) := by show _ = _; rw [flatC_take htl, hLI.out, List.append_assoc]
            generalize tAt xc t = S1 at *
            go_wp2_with (at_builtin; refine frz ?_)
            unfold Frozen
            refine wp_app_text rfl (.tmp 89) (.tmp 94) rfl w.heap.size _ LI rfl HO.out S1 rfl (by omega) HK.out.size ?_
            intro v6 w6 ho hc
            have HB9 := Lib.hid (HB.out.chg hc (own_typeT HO.out HB.out.typ (by decide)))
            have HK9 : Hid (Keeps w w6) := HK.out.then (chg_kept (B := w.heap.size) hc (fun q _ e => (own_block HO.out q e).1) HK.out.size) (Nat.le_refl _)
            have HO9 := Lib.hid ho
            have hl9 : (LI ++ S1.data.toList).length ≤ 200000000 + 32 * (t + 1) := by rw [List.length_append, data_size]; omega
            clear ho hc
            obtain ⟨pu, qu, rfl, _⟩ := own_sliceC HO9.out
            generalize LI ++ S1.data.toList = L2 at *
            go_wp2_with fail
            refine ⟨?_, by simp [intOf]; omega⟩
            first | exact ⟨t + 1, L2, by omega, by go_num, HF, hl9, HO9, HB9, HK9⟩ | ((repeat apply Exists.intro); exact ⟨⟨t + 1, L2, by omega, by go_num, HF, hl9, HO9, HB9, HK9⟩, rfl⟩)
          · obtain rfl : t = xc.length := by omega
            have HL8 : Hid (LI = makeTo l (k + 1)) := by show _ = _; rw [hLI.out, List.take_length]; exact HPRE.out
            go_wp2_with fail
            refine ⟨?_, by simp [intOf]; omega⟩
            first | exact ⟨k + 1, LI, by omega, by go_num, HL8, HO, HK⟩ | ((repeat apply Exists.intro); exact ⟨⟨k + 1, LI, by omega, by go_num, HL8, HO, HK⟩, rfl⟩)
    · obtain rfl : k = l.length := by omega
      have HLM : Hid (L = makeB l) := hL.out
      have HE : Hid (makeE l = if 16384 < (makeB l).length then (⟨#[]⟩, 40) else (strB (makeB l), 0)) := by show _ = _; unfold makeE; rw [HM.out]; rfl
      have hcv := conv_row (P := Tryd.prog) (src := 45) (dst := 9) (e := 5) Tryd.underlying45 (by kernel_rfl) Tryd.underlying9 (SeqIn.at_ ((bytesV_seq (by rw [bytesV_length]; exact hO.out)).seq (by omega)))
      clear hL
      by_cases hbig : 16384 < L.length
      · have g1 : decide ((16384 : Int) < (L.length : Int)) = true := decide_eq_true (by omega)
        have HE2 : Hid (makeE l = (⟨#[]⟩, 40)) := by show _ = _; rw [HE.out, ← HLM.out, if_pos hbig]
        clear hbig
        go_wp2_with fail
        go_ret2
        rw [HE2.out]
        exact ⟨rfl, hK.out⟩
      · have g1 : decide ((16384 : Int) < (L.length : Int)) = false := decide_eq_false (by omega)
        have HE2 : Hid (makeE l = (strB L, 0)) := by show _ = _; rw [HE.out, ← HLM.out, if_neg hbig]
        clear hbig
        go_wp2_with fail
        go_ret2
        rw [HE2.out]
        exact ⟨rfl, hK.out⟩
end Go.Proofs.YtdpfanifagfciaaDoor
