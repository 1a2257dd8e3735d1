/- Entries of a directory; what package node tells of them, as plain functions; the walks of node.number and of an entry's may. -/
import Derived.Test.YtdpfanifagfciaaDoorAwk
import Derived.Test.YtdpfanifagfciaaDoorIdxT
import Derived.Test.YtdpfanifagfciaaDoorStage
import Derived.Test.YtdpfanifagfciaaDoorBuild
namespace Go.Proofs.YtdpfanifagfciaaDoor
open Go.RowKit
attribute [local go_sem ↓] Go.wp_at_zero Go.wp_at_succ
/-- An entry. -/
structure EntR where
  n : ByteArray
  d : Bool
  z : Int
  c : List ByteArray
instance : Inhabited EntR := ⟨⟨ByteArray.empty, false, 0, []⟩⟩
def IsEnt (h : Array Obj) (us : List Value) (x : EntR) : Prop := ∃ v, us = [.string x.n, .bool x.d, .int .i64 x.z, v] ∧ SeqAt IsText h v x.c ∧ ∀ a n q, v = .slice a n q → n ≤ q
abbrev EntsAt (h : Array Obj) (v : Value) (l : List EntR) : Prop := RecAt 4 (IsEnt h) h v l
theorem EntsAt.keeps {w w' : World} {v : Value} {l : List EntR} (s : EntsAt w.heap v l) (k : Keeps w w') : EntsAt w'.heap v l :=
  RecAt.keepsR s k fun _ _ _ ⟨v, e, t, c⟩ => ⟨v, e, SeqAt.keeps t k, c⟩
def eAt (l : List EntR) (i : Nat) : EntR := l.getD i default
theorem eAt_eq {l : List EntR} {i : Nat} (h : i < l.length) : eAt l i = l[i] := by unfold eAt; rw [List.getD_eq_getElem?_getD, List.getElem?_eq_getElem h]; rfl
theorem eAt_mem {l : List EntR} {i : Nat} (h : i < l.length) : eAt l i ∈ l := by rw [eAt_eq h]; exact List.getElem_mem h
theorem mem_eAt {l : List EntR} {x : EntR} (h : x ∈ l) : ∃ i, i < l.length ∧ eAt l i = x := by
  obtain ⟨i, hi, e⟩ := List.getElem_of_mem h
  exact ⟨i, hi, by rw [eAt_eq hi, e]⟩
theorem take_eAt {l : List EntR} {k : Nat} (h : k < l.length) : l.take (k + 1) = l.take k ++ [eAt l k] := by
  rw [eAt_eq h, List.take_succ_eq_append_getElem h]
theorem ent_cell {w : World} {p : Option Addr} {n c : Nat} {l : List EntR} (s : EntsAt w.heap (.slice p n c) l) {i : Nat} (hi : i < l.length) : ∃ b off pc qc, p = some ⟨b, off, none⟩ ∧ n = l.length ∧
    w.cell? ⟨b, off + i * 4, none⟩ = some (.string (eAt l i).n) ∧ w.cell? ⟨b, off + i * 4 + 1, none⟩ = some (.bool (eAt l i).d) ∧ w.cell? ⟨b, off + i * 4 + 2, none⟩ = some (.int .i64 (eAt l i).z) ∧
    w.cell? ⟨b, off + i * 4 + 3, none⟩ = some (.slice pc (eAt l i).c.length qc) ∧ SeqAt IsText w.heap (.slice pc (eAt l i).c.length qc) (eAt l i).c ∧ (eAt l i).c.length ≤ qc := by
  obtain ⟨b, off, c', us, e, _, h2, h3⟩ := rec_cell s hi
  obtain ⟨v, h3, h4, h5⟩ := h3
  subst h3
  injection e with e1 e2 _
  rw [eAt_eq hi]
  obtain ⟨pc, qc, rfl⟩ := seq_shape h4
  exact ⟨b, off, pc, qc, e1, e2, h2 0 (by simp), h2 1 (by simp), h2 2 (by simp), h2 3 (by simp), h4, h5 _ _ _ rfl⟩
theorem entA_one (n : ByteArray) (d : Bool) (z : Int) (p : Option Addr) (m q : Nat) : (#[.string n, .bool d, .int .i64 z, .slice p m q] : Array Value).all (·.oneCell') = true := by
  refine Array.all_eq_true_iff_forall_mem.2 fun v hv => ?_
  simp at hv
  rcases hv with rfl | rfl | rfl | rfl <;> rfl
/-- Has a text a slash? -/
def hasS (p : ByteArray) : Bool := decide (0 ≤ Lib.indexByte p.data.toList 47)
def oddC (s : ByteArray) : Bool := decide (s.size ≠ 32)
/-- May an entry be? -/
def mayE (x : EntR) : Bool := !(!mayPath x.n.data.toList || hasS x.n || x.c.any oddC) && (if x.d then decide (x.z = 0) && decide (x.c.length = 1) else decide (0 ≤ x.z) && decide (x.z ≤ 16384) && decide ((x.c.length : Int) ≤ x.z) && decide (x.z ≤ 1024 * (x.c.length : Int)))
def okE (l : List EntR) (k : Nat) : Bool := mayE (eAt l k) && (decide (k = 0) || lessT (eAt l (k - 1)).n (eAt l k).n)
def mayL (l : List EntR) : Bool := decide (l.length ≤ 256) && (List.range l.length).all (okE l)
/-- A number's bytes, so many. -/
def numAt (n m j : Nat) : UInt8 := UInt8.ofNat (n / 2 ^ (8 * (m - 1 - j)))
def numB (n m : Nat) : List UInt8 := (List.range m).map (numAt n m)
theorem numB_length (n m : Nat) : (numB n m).length = m := by unfold numB; simp
theorem num_val (n m k : Nat) : (n : Int) / 2 ^ (8 * (m - 1 - k)) % 256 = ((numAt n m k).toNat : Int) := by
  unfold numAt
  rw [UInt8.toNat_ofNat']
  have e : (n : Int) / 2 ^ (8 * (m - 1 - k)) = ((n / 2 ^ (8 * (m - 1 - k)) : Nat) : Int) := by
    rw [Int.natCast_ediv]; simp
  rw [e]; omega
set_option maxRecDepth 100000 in
set_option maxHeartbeats 4000000 in
theorem number_any (n m : Nat) (w : World) (hm : m ≤ 4) (hn : n ≤ 140737488355328) : Calls Tryd.prog 51 #[.int .i64 (n : Int), .int .i64 (m : Int)] w fun e w' => e = .returned (.string (strB (numB n m))) ∧ Keeps w w' := by
  go_enter Tryd.func51, Tryd.ntmps51
  go_wp2_with fail
  go_loopw [5, 6] (fun v i wr => ∃ j : Nat, j ≤ m ∧ i = .int .i64 ((m : Int) - 1 - (j : Int)) ∧ Hid (OwnSeq w.heap.size 5 IsByte wr v ((List.range j).map (numAt n m))) ∧ Hid (Keeps w wr)) (fun _ i _ => (intOf i + 1).toNat)
  case atStart => exact ⟨0, by omega, by go_num, by exact OwnSeq.nil _ _ _ _, keeps_refl w⟩
  case round =>
    obtain ⟨j, hj, rfl, hR, hK⟩ := hrel
    by_cases hlt : j < m
    · have g1 : decide ((0 : Int) ≤ (m : Int) - 1 - (j : Int)) = true := decide_eq_true (by omega)
      have g2 : (0 : Int) ≤ (m : Int) - 1 - (j : Int) := by omega
      have x0 : 0 ≤ 8 * ((m : Int) - 1 - (j : Int)) := by omega
      have x1 : (8 * ((m : Int) - 1 - (j : Int))).toNat = 8 * (m - 1 - j) := by omega
      have x3 : IntKind.i64.wrap ((m : Int) - 1 - (j : Int)) = (m : Int) - 1 - (j : Int) := IntWalk.i64_in _ (by omega)
      have x4 : IntKind.i64.wrap (8 * ((m : Int) - 1 - (j : Int))) = 8 * ((m : Int) - 1 - (j : Int)) := IntWalk.i64_in _ (by omega)
      have HV := Lib.hid (num_val n m j)
      obtain ⟨us, hu1, hu2, hu3⟩ := hR.out
      obtain ⟨pv, qv, rfl⟩ := own_slice hu1
      have HU := Lib.hid hu1
      have HL2 := Lib.hid hu2
      have HU3 := Lib.hid hu3
      have HL3 : Hid (us.length ≤ 4) := by show _ ≤ _; rw [hu2]; simp; omega
      have HSU : Hid ((List.range (j + 1)).map (numAt n m) = (List.range j).map (numAt n m) ++ [numAt n m j]) := by show _ = _; rw [List.range_succ, List.map_append]; rfl
      have hszk := hK.out.size
      clear hu1 hu2 hu3 hR
      go_wp2_with (at_builtin; refine frz ?_)
      unfold Frozen
      rw [HV.out]
      refine wp_app1 elByte rfl (.tmp 13) (.tmp 19) rfl w.heap.size (.slice pv us.length qv) us rfl (HU.out.alloc _) _ (.int .u8 ((numAt n m j).toNat : Int)) rfl (World.cell?_alloc_new _ _ _ _) rfl (by have := HL3.out; omega) (by simp; omega) ?_
      intro v' w7 hown hchg
      have HP7 := Lib.hid (OwnSeq.push (R := IsByte) (R' := IsByte) (l := (List.range j).map (numAt n m)) (x := numAt n m j) HL2.out HU3.out hown (fun _ _ _ x => x) rfl)
      have HK7 : Hid (Keeps w w7) := hK.out.then (chg_kept (B := w.heap.size) (Chg.trans (Kept.any (kal _ _)) hchg) (fun q _ e => (own_block HU.out q e).1) hK.out.size) (Nat.le_refl _)
      clear hown hchg
      go_wp2_with fail
      refine ⟨?_, by simp [intOf] <;> omega⟩
      first | exact ⟨j + 1, by omega, by go_num, by rw [HSU.out]; exact HP7, HK7⟩ | ((repeat apply Exists.intro); exact ⟨⟨j + 1, by omega, by go_num, by rw [HSU.out]; exact HP7, HK7⟩, rfl⟩)
    · obtain rfl : j = m := by omega
      have g1 : decide ((0 : Int) ≤ (j : Int) - 1 - (j : Int)) = false := decide_eq_false (by omega)
      have g2 : ¬ (0 : Int) ≤ (j : Int) - 1 - (j : Int) := by omega
      have hcv := conv_row (P := Tryd.prog) (src := 45) (dst := 9) (e := 5) Tryd.underlying45 (by kernel_rfl) Tryd.underlying9 (SeqIn.at_ (hR.out.seq (by simp; omega)))
      go_wp2_with fail
      go_ret
      exact ⟨rfl, hK.out⟩
set_option maxHeartbeats 1000000 in
theorem oddc_any (s : ByteArray) (w : World) : Calls Tryd.prog 71 (#[.string s] ++ #[]) w fun e w' => e = .returned (.bool (oddC s)) ∧ Keeps w w' := by
  by_cases h : s.size = 32
  · have hb : oddC s = false := by unfold oddC; simp [h]
    have g1 : (s.size : Int) = 32 := by omega
    rw [hb]
    clear h hb
    go_enter Tryd.func71, Tryd.ntmps71
    go_wp2
    go_ret
    exact ⟨by first | rfl | (simp [g1]; done) | (simp; exact g1), keeps_refl _⟩
  · have hb : oddC s = true := by unfold oddC; simp [h]
    have g1 : ¬ (s.size : Int) = 32 := by omega
    rw [hb]
    clear h hb
    go_enter Tryd.func71, Tryd.ntmps71
    go_wp2
    go_ret
    exact ⟨by first | rfl | (simp [g1]; done) | (simp; exact g1), keeps_refl _⟩
theorem enters_bodyE {f : FuncId} {fn : Func} {c : Code} (hf : Tryd.prog.funcs[f]? = some fn) (hname : (fn.name == "runtime.NumGoroutine") = false) (hb : fn.body = some c) (xs : Array Value) (w : World) :
    (callFunc f xs).run Tryd.prog w = .ok (.enter f xs) w := by
  have h1 : fn.name ≠ "runtime.NumGoroutine" := by simpa using hname
  simp [callFunc, hf, h1, hb, mark]
theorem enters_oddc (xs : Array Value) (w : World) : (callFunc 71 xs).run Tryd.prog w = .ok (.enter 71 xs) w := enters_bodyE Tryd.func71 (by kernel_rfl) rfl xs w
theorem hasodd_any (v : Value) (l : List ByteArray) (w : World) (h : SeqAt IsText w.heap v l) : Calls Tryd.prog 70 #[v, .func (.func 71) #[] #[]] w fun e w' => e = .returned (.bool (l.any oddC)) ∧ Keeps w w' :=
  containsT_any v l 71 #[] oddC w h enters_oddc fun wx _ s _ => oddc_any s wx
end Go.Proofs.YtdpfanifagfciaaDoor
/- The walk of an entry's may. -/
namespace Go.Proofs.YtdpfanifagfciaaDoor
open Go.RowKit
attribute [local go_sem ↓] Go.wp_at_zero Go.wp_at_succ
set_option maxRecDepth 100000 in
set_option maxHeartbeats 8000000 in
theorem emay_any (n : ByteArray) (d : Bool) (z : Int) (p : Option Addr) (q : Nat) (c : List ByteArray) (w : World) (h : SeqAt IsText w.heap (.slice p c.length q) c) :
    Calls Tryd.prog 55 #[.agg #[.string n, .bool d, .int .i64 z, .slice p c.length q]] w fun e w' => e = .returned (.bool (mayE ⟨n, d, z, c⟩)) ∧ Keeps w w' := by
  have H := Lib.hid h
  have HL : Hid (c.length ≤ 9223372036854775807) := let ⟨_, _, _, x, _⟩ := h; x
  have HE : Hid (mayE ⟨n, d, z, c⟩ = (!(!mayPath n.data.toList || hasS n || c.any oddC) && (if d then decide (z = 0) && decide (c.length = 1) else decide (0 ≤ z) && decide (z ≤ 16384) && decide ((c.length : Int) ≤ z) && decide (z ≤ 1024 * (c.length : Int))))) := rfl
  clear h
  generalize mayE ⟨n, d, z, c⟩ = b at *
  have HMY := Lib.hid (fun wx => may_any n wx)
  have HCN := Lib.hid (fun wx => Sh.strings_Contains_one n 47 wx)
  have HS0 : Hid (decide (0 ≤ Lib.indexByte n.data.toList 47) = hasS n) := rfl
  rw [HS0.out] at HCN
  have HOD := Lib.hid (fun wx hh => hasodd_any (.slice p c.length q) c wx hh)
  generalize mayPath n.data.toList = my at *
  generalize hasS n = hs at *
  generalize c.any oddC = od at *
  go_enter Tryd.func55, Tryd.ntmps55
  go_wp2_with fail
  refine Calls.mono (HMY.out _) ?_
  rintro e w2 ⟨rfl, hk2⟩
  have c0 := keeps_cell hk2 (show (w.alloc (.cells #[.string n, .bool d, .int .i64 z, .slice p c.length q] 33)).cell? ⟨w.heap.size, 0, none⟩ = some (.string n) from World.cell?_alloc_new _ _ _ _)
  have c1 := keeps_cell hk2 (show (w.alloc (.cells #[.string n, .bool d, .int .i64 z, .slice p c.length q] 33)).cell? ⟨w.heap.size, 1, none⟩ = some (.bool d) from World.cell?_alloc_new _ _ _ _)
  have c2 := keeps_cell hk2 (show (w.alloc (.cells #[.string n, .bool d, .int .i64 z, .slice p c.length q] 33)).cell? ⟨w.heap.size, 2, none⟩ = some (.int .i64 z) from World.cell?_alloc_new _ _ _ _)
  have c3 := keeps_cell hk2 (show (w.alloc (.cells #[.string n, .bool d, .int .i64 z, .slice p c.length q] 33)).cell? ⟨w.heap.size, 3, none⟩ = some (.slice p c.length q) from World.cell?_alloc_new _ _ _ _)
  have HK2 : Hid (Keeps w w2) := Keeps.trans (kal _ _) hk2
  clear hk2 HMY
  cases my with
  | false =>
    have HB : Hid (b = false) := by show _ = _; rw [HE.out]; rfl
    go_wp2_with fail
    go_ret
    exact ⟨by rw [HB.out]; rfl, HK2.out⟩
  | true =>
  go_wp2_with fail
  refine Calls.mono (HCN.out _) ?_
  rintro e w2b ⟨rfl, hwb⟩
  rw [hwb]
  clear hwb HCN
  cases hs with
  | true =>
    have HB : Hid (b = false) := by show _ = _; rw [HE.out]; rfl
    go_wp2_with fail
    go_ret
    exact ⟨by rw [HB.out]; rfl, HK2.out⟩
  | false =>
  go_wp2_with fail
  refine Calls.mono (HOD.out _ (SeqAt.keeps H.out HK2.out)) ?_
  rintro e w3 ⟨rfl, hk3⟩
  replace c0 := keeps_cell hk3 c0
  replace c1 := keeps_cell hk3 c1
  replace c2 := keeps_cell hk3 c2
  replace c3 := keeps_cell hk3 c3
  have HK3 := Lib.hid (HK2.out.trans hk3)
  clear hk3 HOD HK2
  cases od with
  | true =>
    have HB : Hid (b = false) := by show _ = _; rw [HE.out]; rfl
    go_wp2_with fail
    go_ret
    exact ⟨by rw [HB.out]; rfl, HK3.out⟩
  | false =>
  have HL2 := HL.out
  generalize c.length = m at *
  cases d with
  | true =>
    have HE2 : Hid (b = (decide (z = 0) && decide (m = 1))) := HE.out
    by_cases hz : z = 0
    · by_cases hm : m = 1
      · have HB : Hid (b = true) := by show _ = _; rw [HE2.out, decide_eq_true hz, decide_eq_true hm]; rfl
        subst hz hm
        go_wp2_with fail
        go_ret
        exact ⟨by rw [HB.out]; rfl, HK3.out⟩
      · have HB : Hid (b = false) := by show _ = _; rw [HE2.out, decide_eq_false hm]; simp
        have g1 : ((m : Int) == 1) = false := beq_false_of_ne (by omega)
        have g2 : decide ((m : Int) = 1) = false := decide_eq_false (by omega)
        subst hz
        go_wp2_with fail
        go_ret
        exact ⟨by rw [HB.out]; rfl, HK3.out⟩
    · have HB : Hid (b = false) := by show _ = _; rw [HE2.out, decide_eq_false hz]; rfl
      have g1 : (z == 0) = false := beq_false_of_ne hz
      have g2 : decide (z = 0) = false := decide_eq_false hz
      clear hz
      go_wp2_with fail
      go_ret
      exact ⟨by rw [HB.out]; rfl, HK3.out⟩
  | false =>
    have HE2 : Hid (b = (decide (0 ≤ z) && decide (z ≤ 16384) && decide ((m : Int) ≤ z) && decide (z ≤ 1024 * (m : Int)))) := HE.out
    by_cases h1 : 0 ≤ z
    · have g1 : decide (0 ≤ z) = true := decide_eq_true h1
      by_cases h2 : z ≤ 16384
      · have g2 : decide (z ≤ 16384) = true := decide_eq_true h2
        by_cases h3 : (m : Int) ≤ z
        · have g3 : decide ((m : Int) ≤ z) = true := decide_eq_true h3
          have x1 : IntKind.i64.wrap (1024 * (m : Int)) = 1024 * (m : Int) := IntWalk.i64_in _ (by omega)
          by_cases h4 : z ≤ 1024 * (m : Int)
          · have g4 : decide (z ≤ 1024 * (m : Int)) = true := decide_eq_true h4
            have HB : Hid (b = true) := by show _ = _; rw [HE2.out, g1, g2, g3, g4]; rfl
            clear HE HE2
            go_wp2_with fail
            go_ret
            exact ⟨by rw [HB.out]; rfl, HK3.out⟩
          · have g4 : decide (z ≤ 1024 * (m : Int)) = false := decide_eq_false h4
            have HB : Hid (b = false) := by show _ = _; rw [HE2.out, g4]; simp
            clear HE HE2 h4
            go_wp2_with fail
            go_ret
            exact ⟨by rw [HB.out]; rfl, HK3.out⟩
        · have g3 : decide ((m : Int) ≤ z) = false := decide_eq_false h3
          have HB : Hid (b = false) := by show _ = _; rw [HE2.out, g3]; simp
          clear HE HE2 h3
          go_wp2_with fail
          go_ret
          exact ⟨by rw [HB.out]; rfl, HK3.out⟩
      · have g2 : decide (z ≤ 16384) = false := decide_eq_false h2
        have HB : Hid (b = false) := by show _ = _; rw [HE2.out, g2]; simp
        clear HE HE2 h2
        go_wp2_with fail
        go_ret
        exact ⟨by rw [HB.out]; rfl, HK3.out⟩
    · have g1 : decide (0 ≤ z) = false := decide_eq_false h1
      have HB : Hid (b = false) := by show _ = _; rw [HE2.out, g1]; rfl
      clear HE HE2 h1
      go_wp2_with fail
      go_ret
      exact ⟨by rw [HB.out]; rfl, HK3.out⟩
end Go.Proofs.YtdpfanifagfciaaDoor
/- The walk of node.May. Printed by gennmay.py. -/
namespace Go.Proofs.YtdpfanifagfciaaDoor
open Go.RowKit
attribute [local go_sem ↓] Go.wp_at_zero Go.wp_at_succ
def nmyA (b1 o1 nn q k kp F m qc : Nat) (n Pn : ByteArray) (d : Bool) (z : Int) (pc : Option Addr) : Nat → Value → Prop
  | i, v => v = ([.agg #[.string n, .bool d, .int .i64 z, .slice pc m qc], .bool false, .bool true, .bool true, undef, undef, undef, undef, undef, undef, undef, undef, undef, undef, undef, undef, undef, .bool true] : List Value).getD i undef
def nmyB (b1 o1 nn q k kp F m qc : Nat) (n Pn : ByteArray) (d : Bool) (z : Int) (pc : Option Addr) : Nat → Value → Prop
  | i, v => v = ([.agg #[.string n, .bool d, .int .i64 z, .slice pc m qc], .bool true, .bool false, .bool false, .int .i64 (k : Int), .bool false, .bool false, undef, undef, undef, undef, undef, undef, undef, undef, undef, .bool false, .bool false] : List Value).getD i undef
def nmyC (b1 o1 nn q k kp F m qc : Nat) (n Pn : ByteArray) (d : Bool) (z : Int) (pc : Option Addr) : Nat → Value → Prop
  | i, v => v = ([.agg #[.string n, .bool d, .int .i64 z, .slice pc m qc], .bool true, .bool false, .bool false, .int .i64 (k : Int), .bool true, .bool true, .slice (some ⟨b1, o1, none⟩) nn q, .int .i64 (k : Int), .int .i64 (kp : Int), .pointer (some ⟨b1, o1 + kp * 4, none⟩), .pointer (some ⟨b1, o1 + kp * 4, none⟩), .string Pn, .pointer (some ⟨F, 0, none⟩), .string n, .bool true, .bool true, .bool true] : List Value).getD i undef
def nmyD (b1 o1 nn q k kp F m qc : Nat) (n Pn : ByteArray) (d : Bool) (z : Int) (pc : Option Addr) : Nat → Value → Prop
  | i, v => v = ([.agg #[.string n, .bool d, .int .i64 z, .slice pc m qc], .bool true, .bool false, .bool false, .int .i64 (k : Int), .bool true, .bool true, .slice (some ⟨b1, o1, none⟩) nn q, .int .i64 (k : Int), .int .i64 (kp : Int), .pointer (some ⟨b1, o1 + kp * 4, none⟩), .pointer (some ⟨b1, o1 + kp * 4, none⟩), .string Pn, .pointer (some ⟨F, 0, none⟩), .string n, .bool false, .bool false, .bool false] : List Value).getD i undef
set_option maxRecDepth 100000 in
set_option maxHeartbeats 8000000 in
theorem nmay_any (v : Value) (l : List EntR) (w : World) (h : EntsAt w.heap v l) : Calls Tryd.prog 22 #[v] w fun e w' => e = .returned (.bool (mayL l)) ∧ Keeps w w' := by
  obtain ⟨p, q, rfl⟩ := rec_shape h
  have HLM : Hid (l.length ≤ 9223372036854775807) := let ⟨_, _, _, x, _⟩ := h; x
  have hl63 := HLM.out
  have H := Lib.hid h
  clear h
  go_enter Tryd.func22, Tryd.ntmps22
  go_wp2_with fail
  go_loopw [7] (fun i wr => ∃ k : Nat, k ≤ l.length ∧ i = .int .i64 k ∧ Hid (∀ j, j < k → okE l j = true) ∧ Hid (Keeps w wr)) (fun i _ => l.length - (intOf i).toNat)
  case atStart => exact ⟨0, by omega, rfl, fun j h => absurd h (by omega), keeps_refl _⟩
  case round =>
    obtain ⟨k, hk, rfl, hN, hK⟩ := hrel
    by_cases hlt : k < l.length
    · have hlt64 : (k : Int) < (l.length : Int) := by omega
      have hk0 : (0 : Int) ≤ (k : Int) := by omega
      obtain ⟨b1, o1, pc, qc, rfl, _, a0, a1, a2, a3, ht, _⟩ := ent_cell (EntsAt.keeps H.out hK.out) hlt
      obtain ⟨b2, o2, _, _, e2, _, c0, _⟩ := ent_cell (EntsAt.keeps H.out hK.out) (i := k - 1) (by omega)
      injection e2 with e2
      injection e2 with e21 e22 _
      subst e21 e22
      have HN2 : Hid (okE l k = true → ∀ j, j < k + 1 → okE l j = true) := fun e j hj => by
        by_cases e2 : j = k
        · subst e2; exact e
        · exact hN.out j (by omega)
      have HF : Hid (okE l k = false → mayL l = false) := fun e => by
        unfold mayL
        rw [Bool.and_eq_false_iff]
        right
        rw [List.all_eq_false]
        exact ⟨k, List.mem_range.2 hlt, by rw [e]; simp⟩
      have HOK : Hid (okE l k = (mayE (eAt l k) && (decide (k = 0) || lessT (eAt l (k - 1)).n (eAt l k).n))) := rfl
      have HMAY : Hid (∀ wx, SeqAt IsText wx.heap (.slice pc (eAt l k).c.length qc) (eAt l k).c → Calls Tryd.prog 55 #[.agg #[.string (eAt l k).n, .bool (eAt l k).d, .int .i64 (eAt l k).z, .slice pc (eAt l k).c.length qc]] wx fun e w' => e = .returned (.bool (mayE (eAt l k))) ∧ Keeps wx w') := fun wx hh => emay_any _ _ _ _ _ _ wx hh
      have HGE : Hid ((!(Op.bytesLess (eAt l (k - 1)).n.toList (eAt l k).n.toList)) = !(lessT (eAt l (k - 1)).n (eAt l k).n)) := rfl
      have HTX := Lib.hid ht
      generalize hkp : k - 1 = kp at *
      have HW : Hid (k = 0 ∨ IntKind.i64.wrap ((k : Int) - 1) = (kp : Int)) := by
        subst hkp
        by_cases e : k = 0
        · exact .inl e
        · exact .inr (by rw [IntWalk.i64_in _ (by omega)]; omega)
      have HB : Hid ((0 : Int) ≤ (kp : Int) ∧ (kp : Int) < (l.length : Int)) := ⟨by omega, by omega⟩
      have HON := Lib.hid (entA_one (eAt l k).n (eAt l k).d (eAt l k).z pc (eAt l k).c.length qc)
      clear hkp ht
      generalize mayE (eAt l k) = my at *
      generalize lessT (eAt l kp).n (eAt l k).n = ls at *
      generalize (eAt l k).n = n at *
      generalize (eAt l k).d = d at *
      generalize (eAt l k).z = z at *
      generalize (eAt l kp).n = Pn at *
      generalize (eAt l k).c = c at *
      generalize c.length = m at *
      go_upto_region 4 with (refine wpList_store_row rfl 33 (.tmp 4) (.tmp 11) rfl wr.heap.size #[.string n, .bool d, .int .i64 z, .slice pc m qc] rfl rfl 33 _ (heap_alloc_last wr _) (by kernel_rfl) rfl HON.out ?_; rw [World.setRow_alloc_new])
      have E0 : Hid ((wr.alloc (.cells #[.string n, .bool d, .int .i64 z, .slice pc m qc] 33)).cell? ⟨wr.heap.size, 0, none⟩ = some (.string n)) := World.cell?_alloc_new _ _ _ _
      have E1 : Hid ((wr.alloc (.cells #[.string n, .bool d, .int .i64 z, .slice pc m qc] 33)).cell? ⟨wr.heap.size, 1, none⟩ = some (.bool d)) := World.cell?_alloc_new _ _ _ _
      have E2 : Hid ((wr.alloc (.cells #[.string n, .bool d, .int .i64 z, .slice pc m qc] 33)).cell? ⟨wr.heap.size, 2, none⟩ = some (.int .i64 z)) := World.cell?_alloc_new _ _ _ _
      have E3 : Hid ((wr.alloc (.cells #[.string n, .bool d, .int .i64 z, .slice pc m qc] 33)).cell? ⟨wr.heap.size, 3, none⟩ = some (.slice pc m qc)) := World.cell?_alloc_new _ _ _ _
      have Q0 := Lib.hid (keeps_cell (kal wr (.cells #[.string n, .bool d, .int .i64 z, .slice pc m qc] 33)) c0)
      replace HTX := Lib.hid (SeqAt.keeps HTX.out (kal wr (.cells #[.string n, .bool d, .int .i64 z, .slice pc m qc] 33)))
      have HKF : Hid (Keeps w (wr.alloc (.cells #[.string n, .bool d, .int .i64 z, .slice pc m qc] 33))) := hK.out.trans (kal _ _)
      clear a0 a1 a2 a3 c0 hK
      generalize wr.alloc (.cells #[.string n, .bool d, .int .i64 z, .slice pc m qc] 33) = wf at *
      generalize wr.heap.size = F at *

      cases my with
      | false =>
        have HT2 := Lib.hid (HF.out (by rw [HOK.out]; rfl))
        refine wp_region_stage [12, 13, 14, 15, 16, 17, 18, 19, 20, 21, 22, 23, 24, 25, 26, 27, 28, 29] [[], [0], [1], [2], [3], [3], [3], [6], [6], [6], [6], [6], [6], [6], [6], [6], [3], [3, 16]] [] [0, 0, 0, 0, 0, 0, 0, 0, 0, 0, 0, 0, 0, 0, 0, 0, 0, 0] [4, 5, 6, 7, 8, 9, 10, 11, 12, 13, 14, 15, 16] (fun i v _ => nmyA b1 o1 l.length q k kp F m qc n Pn d z pc i v) (fun w w' => Keeps w w') (fun _ _ w' => Keeps wf w') (by kernel_rfl) (by kernel_rfl) (by kernel_rfl) (by kernel_rfl) (by kernel_rfl) (by kernel_rfl) (by kernel_rfl) ?_ ?_ ?_ ?_ ?_ ?_ ?_
        · exact fun i v w w' c h => h
        · exact fun w => keeps_refl w
        · exact fun i s vs w _ h => h
        · refine ⟨?_, ?_, ?_, ?_, ?_, ?_, ?_, ?_, ?_, ?_, ?_, ?_, ?_, ?_, ?_, ?_, ?_, ?_, trivial⟩
          · exact fun g b h => by (cases h)
          · exact fun g b h => by (cases h)
          · exact fun g b h => by (cases h)
          · exact fun g b h => by (cases h)
          · exact ⟨⟨_, _, rfl, by decide, fun v w h => by (first | (change v = _ at h; subst h; intro x; cases x) | skip)⟩, fun w => rfl⟩
          · exact ⟨⟨_, _, rfl, by decide, fun v w h => by (first | (change v = _ at h; subst h; intro x; cases x) | skip)⟩, fun w => rfl⟩
          · exact ⟨⟨_, _, rfl, by decide, fun v w h => by (first | (change v = _ at h; subst h; intro x; cases x) | skip)⟩, fun w => rfl⟩
          · exact ⟨⟨_, _, rfl, by decide, fun v w h => by (first | (change v = _ at h; subst h; intro x; cases x) | skip)⟩, fun w => rfl⟩
          · exact ⟨⟨_, _, rfl, by decide, fun v w h => by (first | (change v = _ at h; subst h; intro x; cases x) | skip)⟩, fun w => rfl⟩
          · exact ⟨⟨_, _, rfl, by decide, fun v w h => by (first | (change v = _ at h; subst h; intro x; cases x) | skip)⟩, fun w => rfl⟩
          · exact ⟨⟨_, _, rfl, by decide, fun v w h => by (first | (change v = _ at h; subst h; intro x; cases x) | skip)⟩, fun w => rfl⟩
          · exact ⟨⟨_, _, rfl, by decide, fun v w h => by (first | (change v = _ at h; subst h; intro x; cases x) | skip)⟩, fun w => rfl⟩
          · exact ⟨⟨_, _, rfl, by decide, fun v w h => by (first | (change v = _ at h; subst h; intro x; cases x) | skip)⟩, fun w => rfl⟩
          · exact ⟨⟨_, _, rfl, by decide, fun v w h => by (first | (change v = _ at h; subst h; intro x; cases x) | skip)⟩, fun w => rfl⟩
          · exact ⟨⟨_, _, rfl, by decide, fun v w h => by (first | (change v = _ at h; subst h; intro x; cases x) | skip)⟩, fun w => rfl⟩
          · exact ⟨⟨_, _, rfl, by decide, fun v w h => by (first | (change v = _ at h; subst h; intro x; cases x) | skip)⟩, fun w => rfl⟩
          · exact ⟨⟨_, _, rfl, by decide, fun v w h => by (first | (change v = _ at h; subst h; intro x; cases x) | skip)⟩, fun w => rfl⟩
          · exact fun g b h => by (cases h)
        · exact fun _ _ => keeps_refl wf
        · refine ⟨?_, ?_, ?_, ?_, ?_, ?_, ?_, ?_, ?_, ?_, ?_, ?_, ?_, ?_, ?_, ?_, ?_, ?_, trivial⟩
          · intro _ a w1 vs hI ho hn hu K hK
            have e4 : a.tmps[4]? = some (.pointer (some ⟨F, 0, none⟩)) := ho 4 rfl
            clear hn ho hu
            have c0 := keeps_cell hI E0.out
            have c1 := keeps_cell hI E1.out
            have c2 := keeps_cell hI E2.out
            have c3 := keeps_cell hI E3.out
            go_simp
            exact hK _ _ (keeps_refl _) hI rfl
          · intro _ a w1 vs hI ho hn hu K hK
            obtain ⟨e12, g12⟩ : a.tmps[12]? = some (vs 0) ∧ vs 0 = .agg #[.string n, .bool d, .int .i64 z, .slice pc m qc] := hn 0 (by decide)
            rw [g12] at e12
            clear g12
            clear hn ho hu
            go_simp
            refine Calls.mono (HMAY.out _ (SeqAt.keeps HTX.out hI)) ?_
            rintro e w' ⟨rfl, hk2⟩
            go_simp
            exact hK _ _ hk2 (Keeps.trans hI hk2) rfl
          · intro _ a w1 vs hI ho hn hu K hK
            obtain ⟨e13, g13⟩ : a.tmps[13]? = some (vs 1) ∧ vs 1 = .bool false := hn 1 (by decide)
            rw [g13] at e13
            clear g13
            clear hn ho hu
            go_simp
            exact hK _ _ (keeps_refl _) hI rfl
          · intro _ a w1 vs hI ho hn hu K hK
            obtain ⟨e14, g14⟩ : a.tmps[14]? = some (vs 2) ∧ vs 2 = .bool true := hn 2 (by decide)
            rw [g14] at e14
            clear g14
            clear hn ho hu
            go_simp
            exact hK _ _ (keeps_refl _) hI rfl
          · intro hs; cases hs
          · intro hs; cases hs
          · intro hs; cases hs
          · intro hs; cases hs
          · intro hs; cases hs
          · intro hs; cases hs
          · intro hs; cases hs
          · intro hs; cases hs
          · intro hs; cases hs
          · intro hs; cases hs
          · intro hs; cases hs
          · intro hs; cases hs
          · intro hs; cases hs
          · intro _ a w1 vs hI ho hn hu K hK
            obtain ⟨e15, g15⟩ : a.tmps[15]? = some (vs 3) ∧ vs 3 = .bool true := hn 3 (by decide)
            rw [g15] at e15
            clear g15
            obtain ⟨e28, g28⟩ : a.tmps[28]? = some (vs 16) ∧ vs 16 = undef := hn 16 (by decide)
            rw [g28] at e28
            clear g28
            clear hn ho hu
            go_simp
            exact hK _ _ (keeps_refl _) hI rfl
        · intro vs wE hI hG
          have eL17 : vs 17 = .bool true := hG 17 (by decide)
          have HKE := Lib.hid hI
          clear hG hI
          simp only [setAll, Nat.zero_add, Nat.reduceAdd, List.setIfInBounds_toArray, List.set_cons_zero, List.set_cons_succ, eL17]
          clear eL17
          generalize vs 0 = y0 at *
          generalize vs 1 = y1 at *
          generalize vs 2 = y2 at *
          generalize vs 3 = y3 at *
          generalize vs 4 = y4 at *
          generalize vs 5 = y5 at *
          generalize vs 6 = y6 at *
          generalize vs 7 = y7 at *
          generalize vs 8 = y8 at *
          generalize vs 9 = y9 at *
          generalize vs 10 = y10 at *
          generalize vs 11 = y11 at *
          generalize vs 12 = y12 at *
          generalize vs 13 = y13 at *
          generalize vs 14 = y14 at *
          generalize vs 15 = y15 at *
          generalize vs 16 = y16 at *
          have HKW := Lib.hid (HKF.out.trans HKE.out)
          clear HKE
          go_wp2_with fail
          go_ret
          exact ⟨by rw [HT2.out]; rfl, HKW.out⟩
      | true =>
        by_cases hk0 : k = 0
        · have HG : Hid (decide ((0 : Int) < (k : Int)) = false ∧ decide (0 < k) = false) := ⟨decide_eq_false (by omega), decide_eq_false (by omega)⟩
          have HN3 := Lib.hid (HN2.out (by rw [HOK.out, decide_eq_true hk0]; rfl))
          have HK0 := Lib.hid hk0
          clear hk0
          refine wp_region_stage [12, 13, 14, 15, 16, 17, 18, 19, 20, 21, 22, 23, 24, 25, 26, 27, 28, 29] [[], [0], [1], [2], [3], [3, 4], [3, 5], [6], [6], [6], [6], [6], [6], [6], [6], [6], [3, 6, 15], [3, 16]] [] [0, 0, 0, 0, 0, 0, 0, 0, 0, 0, 0, 0, 0, 0, 0, 0, 0, 0] [7, 8, 9, 10, 11, 12, 13, 14, 15] (fun i v _ => nmyB b1 o1 l.length q k kp F m qc n Pn d z pc i v) (fun w w' => Keeps w w') (fun _ _ w' => Keeps wf w') (by kernel_rfl) (by kernel_rfl) (by kernel_rfl) (by kernel_rfl) (by kernel_rfl) (by kernel_rfl) (by kernel_rfl) ?_ ?_ ?_ ?_ ?_ ?_ ?_
          · exact fun i v w w' c h => h
          · exact fun w => keeps_refl w
          · exact fun i s vs w _ h => h
          · refine ⟨?_, ?_, ?_, ?_, ?_, ?_, ?_, ?_, ?_, ?_, ?_, ?_, ?_, ?_, ?_, ?_, ?_, ?_, trivial⟩
            · exact fun g b h => by (cases h)
            · exact fun g b h => by (cases h)
            · exact fun g b h => by (cases h)
            · exact fun g b h => by (cases h)
            · exact fun g b h => by (cases h; exact ⟨by decide, fun v w h => h⟩)
            · exact fun g b h => by (cases h; exact ⟨by decide, fun v w h => h⟩)
            · exact fun g b h => by (cases h; exact ⟨by decide, fun v w h => h⟩)
            · exact ⟨⟨_, _, rfl, by decide, fun v w h => by (first | (change v = _ at h; subst h; intro x; cases x) | skip)⟩, fun w => rfl⟩
            · exact ⟨⟨_, _, rfl, by decide, fun v w h => by (first | (change v = _ at h; subst h; intro x; cases x) | skip)⟩, fun w => rfl⟩
            · exact ⟨⟨_, _, rfl, by decide, fun v w h => by (first | (change v = _ at h; subst h; intro x; cases x) | skip)⟩, fun w => rfl⟩
            · exact ⟨⟨_, _, rfl, by decide, fun v w h => by (first | (change v = _ at h; subst h; intro x; cases x) | skip)⟩, fun w => rfl⟩
            · exact ⟨⟨_, _, rfl, by decide, fun v w h => by (first | (change v = _ at h; subst h; intro x; cases x) | skip)⟩, fun w => rfl⟩
            · exact ⟨⟨_, _, rfl, by decide, fun v w h => by (first | (change v = _ at h; subst h; intro x; cases x) | skip)⟩, fun w => rfl⟩
            · exact ⟨⟨_, _, rfl, by decide, fun v w h => by (first | (change v = _ at h; subst h; intro x; cases x) | skip)⟩, fun w => rfl⟩
            · exact ⟨⟨_, _, rfl, by decide, fun v w h => by (first | (change v = _ at h; subst h; intro x; cases x) | skip)⟩, fun w => rfl⟩
            · exact ⟨⟨_, _, rfl, by decide, fun v w h => by (first | (change v = _ at h; subst h; intro x; cases x) | skip)⟩, fun w => rfl⟩
            · exact fun g b h => by (cases h; exact ⟨by decide, fun v w h => h⟩)
            · exact fun g b h => by (cases h)
          · exact fun _ _ => keeps_refl wf
          · refine ⟨?_, ?_, ?_, ?_, ?_, ?_, ?_, ?_, ?_, ?_, ?_, ?_, ?_, ?_, ?_, ?_, ?_, ?_, trivial⟩
            · intro _ a w1 vs hI ho hn hu K hK
              have e4 : a.tmps[4]? = some (.pointer (some ⟨F, 0, none⟩)) := ho 4 rfl
              clear hn ho hu
              have c0 := keeps_cell hI E0.out
              have c1 := keeps_cell hI E1.out
              have c2 := keeps_cell hI E2.out
              have c3 := keeps_cell hI E3.out
              go_simp
              exact hK _ _ (keeps_refl _) hI rfl
            · intro _ a w1 vs hI ho hn hu K hK
              obtain ⟨e12, g12⟩ : a.tmps[12]? = some (vs 0) ∧ vs 0 = .agg #[.string n, .bool d, .int .i64 z, .slice pc m qc] := hn 0 (by decide)
              rw [g12] at e12
              clear g12
              clear hn ho hu
              go_simp
              refine Calls.mono (HMAY.out _ (SeqAt.keeps HTX.out hI)) ?_
              rintro e w' ⟨rfl, hk2⟩
              go_simp
              exact hK _ _ hk2 (Keeps.trans hI hk2) rfl
            · intro _ a w1 vs hI ho hn hu K hK
              obtain ⟨e13, g13⟩ : a.tmps[13]? = some (vs 1) ∧ vs 1 = .bool true := hn 1 (by decide)
              rw [g13] at e13
              clear g13
              clear hn ho hu
              go_simp
              exact hK _ _ (keeps_refl _) hI rfl
            · intro _ a w1 vs hI ho hn hu K hK
              obtain ⟨e14, g14⟩ : a.tmps[14]? = some (vs 2) ∧ vs 2 = .bool false := hn 2 (by decide)
              rw [g14] at e14
              clear g14
              clear hn ho hu
              go_simp
              exact hK _ _ (keeps_refl _) hI rfl
            · intro _ a w1 vs hI ho hn hu K hK
              have e3 : a.tmps[3]? = some (.int .i64 (k : Int)) := ho 3 rfl
              clear hn ho hu
              go_simp
              exact hK _ _ (keeps_refl _) hI rfl
            · intro _ a w1 vs hI ho hn hu K hK
              obtain ⟨e16, g16⟩ : a.tmps[16]? = some (vs 4) ∧ vs 4 = .int .i64 (k : Int) := hn 4 (by decide)
              rw [g16] at e16
              clear g16
              clear hn ho hu
              have q1 := HG.out.1
              have q2 := HG.out.2
              go_simp
              exact hK _ _ (keeps_refl _) hI rfl
            · intro _ a w1 vs hI ho hn hu K hK
              obtain ⟨e17, g17⟩ : a.tmps[17]? = some (vs 5) ∧ vs 5 = .bool false := hn 5 (by decide)
              rw [g17] at e17
              clear g17
              clear hn ho hu
              go_simp
              exact hK _ _ (keeps_refl _) hI rfl
            · intro hs; cases hs
            · intro hs; cases hs
            · intro hs; cases hs
            · intro hs; cases hs
            · intro hs; cases hs
            · intro hs; cases hs
            · intro hs; cases hs
            · intro hs; cases hs
            · intro hs; cases hs
            · intro _ a w1 vs hI ho hn hu K hK
              obtain ⟨e18, g18⟩ : a.tmps[18]? = some (vs 6) ∧ vs 6 = .bool false := hn 6 (by decide)
              rw [g18] at e18
              clear g18
              obtain ⟨e27, g27⟩ : a.tmps[27]? = some (vs 15) ∧ vs 15 = undef := hn 15 (by decide)
              rw [g27] at e27
              clear g27
              clear hn ho hu
              go_simp
              exact hK _ _ (keeps_refl _) hI rfl
            · intro _ a w1 vs hI ho hn hu K hK
              obtain ⟨e15, g15⟩ : a.tmps[15]? = some (vs 3) ∧ vs 3 = .bool false := hn 3 (by decide)
              rw [g15] at e15
              clear g15
              obtain ⟨e28, g28⟩ : a.tmps[28]? = some (vs 16) ∧ vs 16 = .bool false := hn 16 (by decide)
              rw [g28] at e28
              clear g28
              clear hn ho hu
              go_simp
              exact hK _ _ (keeps_refl _) hI rfl
          · intro vs wE hI hG
            have eL17 : vs 17 = .bool false := hG 17 (by decide)
            have HKE := Lib.hid hI
            clear hG hI
            simp only [setAll, Nat.zero_add, Nat.reduceAdd, List.setIfInBounds_toArray, List.set_cons_zero, List.set_cons_succ, eL17]
            clear eL17
            generalize vs 0 = y0 at *
            generalize vs 1 = y1 at *
            generalize vs 2 = y2 at *
            generalize vs 3 = y3 at *
            generalize vs 4 = y4 at *
            generalize vs 5 = y5 at *
            generalize vs 6 = y6 at *
            generalize vs 7 = y7 at *
            generalize vs 8 = y8 at *
            generalize vs 9 = y9 at *
            generalize vs 10 = y10 at *
            generalize vs 11 = y11 at *
            generalize vs 12 = y12 at *
            generalize vs 13 = y13 at *
            generalize vs 14 = y14 at *
            generalize vs 15 = y15 at *
            generalize vs 16 = y16 at *
            have HKW := Lib.hid (HKF.out.trans HKE.out)
            clear HKE
            go_wp2_with fail
            refine ⟨?_, by simp [intOf]; omega⟩
            first | exact ⟨k + 1, by omega, by go_num, HN3, HKW⟩ | ((repeat apply Exists.intro); exact ⟨⟨k + 1, by omega, by go_num, HN3, HKW⟩, rfl⟩)
        · have HG : Hid (decide ((0 : Int) < (k : Int)) = true ∧ decide (0 < k) = true) := ⟨decide_eq_true (by omega), decide_eq_true (by omega)⟩
          have HK0 := Lib.hid hk0
          clear hk0
          cases ls with
          | false =>
            have HT2 := Lib.hid (HF.out (by rw [HOK.out, decide_eq_false HK0.out]; rfl))
            refine wp_region_stage [12, 13, 14, 15, 16, 17, 18, 19, 20, 21, 22, 23, 24, 25, 26, 27, 28, 29] [[], [0], [1], [2], [3], [3, 4], [3, 5], [6], [6], [6, 8], [6, 7, 9], [6, 10], [6, 11], [6], [6, 13], [6, 12, 14], [3, 6, 15], [3, 16]] [] [0, 0, 0, 0, 0, 0, 0, 0, 0, 0, 0, 0, 0, 0, 0, 0, 0, 0] [] (fun i v _ => nmyC b1 o1 l.length q k kp F m qc n Pn d z pc i v) (fun w w' => Keeps w w') (fun _ _ w' => Keeps wf w') (by kernel_rfl) (by kernel_rfl) (by kernel_rfl) (by kernel_rfl) (by kernel_rfl) (by kernel_rfl) (by kernel_rfl) ?_ ?_ ?_ ?_ ?_ ?_ ?_
            · exact fun i v w w' c h => h
            · exact fun w => keeps_refl w
            · exact fun i s vs w _ h => h
            · refine ⟨?_, ?_, ?_, ?_, ?_, ?_, ?_, ?_, ?_, ?_, ?_, ?_, ?_, ?_, ?_, ?_, ?_, ?_, trivial⟩
              · exact fun g b h => by (cases h)
              · exact fun g b h => by (cases h)
              · exact fun g b h => by (cases h)
              · exact fun g b h => by (cases h)
              · exact fun g b h => by (cases h; exact ⟨by decide, fun v w h => h⟩)
              · exact fun g b h => by (cases h; exact ⟨by decide, fun v w h => h⟩)
              · exact fun g b h => by (cases h; exact ⟨by decide, fun v w h => h⟩)
              · exact fun g b h => by (cases h; exact ⟨by decide, fun v w h => h⟩)
              · exact fun g b h => by (cases h; exact ⟨by decide, fun v w h => h⟩)
              · exact fun g b h => by (cases h; exact ⟨by decide, fun v w h => h⟩)
              · exact fun g b h => by (cases h; exact ⟨by decide, fun v w h => h⟩)
              · exact fun g b h => by (cases h; exact ⟨by decide, fun v w h => h⟩)
              · exact fun g b h => by (cases h; exact ⟨by decide, fun v w h => h⟩)
              · exact fun g b h => by (cases h; exact ⟨by decide, fun v w h => h⟩)
              · exact fun g b h => by (cases h; exact ⟨by decide, fun v w h => h⟩)
              · exact fun g b h => by (cases h; exact ⟨by decide, fun v w h => h⟩)
              · exact fun g b h => by (cases h; exact ⟨by decide, fun v w h => h⟩)
              · exact fun g b h => by (cases h)
            · exact fun _ _ => keeps_refl wf
            · refine ⟨?_, ?_, ?_, ?_, ?_, ?_, ?_, ?_, ?_, ?_, ?_, ?_, ?_, ?_, ?_, ?_, ?_, ?_, trivial⟩
              · intro _ a w1 vs hI ho hn hu K hK
                have e4 : a.tmps[4]? = some (.pointer (some ⟨F, 0, none⟩)) := ho 4 rfl
                clear hn ho hu
                have c0 := keeps_cell hI E0.out
                have c1 := keeps_cell hI E1.out
                have c2 := keeps_cell hI E2.out
                have c3 := keeps_cell hI E3.out
                go_simp
                exact hK _ _ (keeps_refl _) hI rfl
              · intro _ a w1 vs hI ho hn hu K hK
                obtain ⟨e12, g12⟩ : a.tmps[12]? = some (vs 0) ∧ vs 0 = .agg #[.string n, .bool d, .int .i64 z, .slice pc m qc] := hn 0 (by decide)
                rw [g12] at e12
                clear g12
                clear hn ho hu
                go_simp
                refine Calls.mono (HMAY.out _ (SeqAt.keeps HTX.out hI)) ?_
                rintro e w' ⟨rfl, hk2⟩
                go_simp
                exact hK _ _ hk2 (Keeps.trans hI hk2) rfl
              · intro _ a w1 vs hI ho hn hu K hK
                obtain ⟨e13, g13⟩ : a.tmps[13]? = some (vs 1) ∧ vs 1 = .bool true := hn 1 (by decide)
                rw [g13] at e13
                clear g13
                clear hn ho hu
                go_simp
                exact hK _ _ (keeps_refl _) hI rfl
              · intro _ a w1 vs hI ho hn hu K hK
                obtain ⟨e14, g14⟩ : a.tmps[14]? = some (vs 2) ∧ vs 2 = .bool false := hn 2 (by decide)
                rw [g14] at e14
                clear g14
                clear hn ho hu
                go_simp
                exact hK _ _ (keeps_refl _) hI rfl
              · intro _ a w1 vs hI ho hn hu K hK
                have e3 : a.tmps[3]? = some (.int .i64 (k : Int)) := ho 3 rfl
                clear hn ho hu
                go_simp
                exact hK _ _ (keeps_refl _) hI rfl
              · intro _ a w1 vs hI ho hn hu K hK
                obtain ⟨e16, g16⟩ : a.tmps[16]? = some (vs 4) ∧ vs 4 = .int .i64 (k : Int) := hn 4 (by decide)
                rw [g16] at e16
                clear g16
                clear hn ho hu
                have q1 := HG.out.1
                have q2 := HG.out.2
                go_simp
                exact hK _ _ (keeps_refl _) hI rfl
              · intro _ a w1 vs hI ho hn hu K hK
                obtain ⟨e17, g17⟩ : a.tmps[17]? = some (vs 5) ∧ vs 5 = .bool true := hn 5 (by decide)
                rw [g17] at e17
                clear g17
                clear hn ho hu
                go_simp
                exact hK _ _ (keeps_refl _) hI rfl
              · intro _ a w1 vs hI ho hn hu K hK
                have e0 : a.tmps[0]? = some (.slice (some ⟨b1, o1, none⟩) l.length q) := ho 0 rfl
                clear hn ho hu
                go_simp
                exact hK _ _ (keeps_refl _) hI rfl
              · intro _ a w1 vs hI ho hn hu K hK
                have e3 : a.tmps[3]? = some (.int .i64 (k : Int)) := ho 3 rfl
                clear hn ho hu
                go_simp
                exact hK _ _ (keeps_refl _) hI rfl
              · intro _ a w1 vs hI ho hn hu K hK
                obtain ⟨e20, g20⟩ : a.tmps[20]? = some (vs 8) ∧ vs 8 = .int .i64 (k : Int) := hn 8 (by decide)
                rw [g20] at e20
                clear g20
                clear hn ho hu
                have q1 := HW.out.resolve_left HK0.out
                go_simp
                exact hK _ _ (keeps_refl _) hI rfl
              · intro _ a w1 vs hI ho hn hu K hK
                obtain ⟨e19, g19⟩ : a.tmps[19]? = some (vs 7) ∧ vs 7 = .slice (some ⟨b1, o1, none⟩) l.length q := hn 7 (by decide)
                rw [g19] at e19
                clear g19
                obtain ⟨e21, g21⟩ : a.tmps[21]? = some (vs 9) ∧ vs 9 = .int .i64 (kp : Int) := hn 9 (by decide)
                rw [g21] at e21
                clear g21
                clear hn ho hu
                have i1 := HB.out.1
                have i2 := HB.out.2
                go_simp
                exact hK _ _ (keeps_refl _) hI rfl
              · intro _ a w1 vs hI ho hn hu K hK
                obtain ⟨e22, g22⟩ : a.tmps[22]? = some (vs 10) ∧ vs 10 = .pointer (some ⟨b1, o1 + kp * 4, none⟩) := hn 10 (by decide)
                rw [g22] at e22
                clear g22
                clear hn ho hu
                go_simp
                exact hK _ _ (keeps_refl _) hI rfl
              · intro _ a w1 vs hI ho hn hu K hK
                obtain ⟨e23, g23⟩ : a.tmps[23]? = some (vs 11) ∧ vs 11 = .pointer (some ⟨b1, o1 + kp * 4, none⟩) := hn 11 (by decide)
                rw [g23] at e23
                clear g23
                clear hn ho hu
                have c0 := keeps_cell hI Q0.out
                go_simp
                exact hK _ _ (keeps_refl _) hI rfl
              · intro _ a w1 vs hI ho hn hu K hK
                have e4 : a.tmps[4]? = some (.pointer (some ⟨F, 0, none⟩)) := ho 4 rfl
                clear hn ho hu
                go_simp
                exact hK _ _ (keeps_refl _) hI rfl
              · intro _ a w1 vs hI ho hn hu K hK
                obtain ⟨e25, g25⟩ : a.tmps[25]? = some (vs 13) ∧ vs 13 = .pointer (some ⟨F, 0, none⟩) := hn 13 (by decide)
                rw [g25] at e25
                clear g25
                clear hn ho hu
                have c0 := keeps_cell hI E0.out
                go_simp
                exact hK _ _ (keeps_refl _) hI rfl
              · intro _ a w1 vs hI ho hn hu K hK
                obtain ⟨e24, g24⟩ : a.tmps[24]? = some (vs 12) ∧ vs 12 = .string Pn := hn 12 (by decide)
                rw [g24] at e24
                clear g24
                obtain ⟨e26, g26⟩ : a.tmps[26]? = some (vs 14) ∧ vs 14 = .string n := hn 14 (by decide)
                rw [g26] at e26
                clear g26
                clear hn ho hu
                have q1 := HGE.out
                go_simp
                exact hK _ _ (keeps_refl _) hI rfl
              · intro _ a w1 vs hI ho hn hu K hK
                obtain ⟨e18, g18⟩ : a.tmps[18]? = some (vs 6) ∧ vs 6 = .bool true := hn 6 (by decide)
                rw [g18] at e18
                clear g18
                obtain ⟨e27, g27⟩ : a.tmps[27]? = some (vs 15) ∧ vs 15 = .bool true := hn 15 (by decide)
                rw [g27] at e27
                clear g27
                clear hn ho hu
                go_simp
                exact hK _ _ (keeps_refl _) hI rfl
              · intro _ a w1 vs hI ho hn hu K hK
                obtain ⟨e15, g15⟩ : a.tmps[15]? = some (vs 3) ∧ vs 3 = .bool false := hn 3 (by decide)
                rw [g15] at e15
                clear g15
                obtain ⟨e28, g28⟩ : a.tmps[28]? = some (vs 16) ∧ vs 16 = .bool true := hn 16 (by decide)
                rw [g28] at e28
                clear g28
                clear hn ho hu
                go_simp
                exact hK _ _ (keeps_refl _) hI rfl
            · intro vs wE hI hG
              have eL17 : vs 17 = .bool true := hG 17 (by decide)
              have HKE := Lib.hid hI
              clear hG hI
              simp only [setAll, Nat.zero_add, Nat.reduceAdd, List.setIfInBounds_toArray, List.set_cons_zero, List.set_cons_succ, eL17]
              clear eL17
              generalize vs 0 = y0 at *
              generalize vs 1 = y1 at *
              generalize vs 2 = y2 at *
              generalize vs 3 = y3 at *
              generalize vs 4 = y4 at *
              generalize vs 5 = y5 at *
              generalize vs 6 = y6 at *
              generalize vs 7 = y7 at *
              generalize vs 8 = y8 at *
              generalize vs 9 = y9 at *
              generalize vs 10 = y10 at *
              generalize vs 11 = y11 at *
              generalize vs 12 = y12 at *
              generalize vs 13 = y13 at *
              generalize vs 14 = y14 at *
              generalize vs 15 = y15 at *
              generalize vs 16 = y16 at *
              have HKW := Lib.hid (HKF.out.trans HKE.out)
              clear HKE
              go_wp2_with fail
              go_ret
              exact ⟨by rw [HT2.out]; rfl, HKW.out⟩
          | true =>
            have HN3 := Lib.hid (HN2.out (by rw [HOK.out]; simp))
            refine wp_region_stage [12, 13, 14, 15, 16, 17, 18, 19, 20, 21, 22, 23, 24, 25, 26, 27, 28, 29] [[], [0], [1], [2], [3], [3, 4], [3, 5], [6], [6], [6, 8], [6, 7, 9], [6, 10], [6, 11], [6], [6, 13], [6, 12, 14], [3, 6, 15], [3, 16]] [] [0, 0, 0, 0, 0, 0, 0, 0, 0, 0, 0, 0, 0, 0, 0, 0, 0, 0] [] (fun i v _ => nmyD b1 o1 l.length q k kp F m qc n Pn d z pc i v) (fun w w' => Keeps w w') (fun _ _ w' => Keeps wf w') (by kernel_rfl) (by kernel_rfl) (by kernel_rfl) (by kernel_rfl) (by kernel_rfl) (by kernel_rfl) (by kernel_rfl) ?_ ?_ ?_ ?_ ?_ ?_ ?_
            · exact fun i v w w' c h => h
            · exact fun w => keeps_refl w
            · exact fun i s vs w _ h => h
            · refine ⟨?_, ?_, ?_, ?_, ?_, ?_, ?_, ?_, ?_, ?_, ?_, ?_, ?_, ?_, ?_, ?_, ?_, ?_, trivial⟩
              · exact fun g b h => by (cases h)
              · exact fun g b h => by (cases h)
              · exact fun g b h => by (cases h)
              · exact fun g b h => by (cases h)
              · exact fun g b h => by (cases h; exact ⟨by decide, fun v w h => h⟩)
              · exact fun g b h => by (cases h; exact ⟨by decide, fun v w h => h⟩)
              · exact fun g b h => by (cases h; exact ⟨by decide, fun v w h => h⟩)
              · exact fun g b h => by (cases h; exact ⟨by decide, fun v w h => h⟩)
              · exact fun g b h => by (cases h; exact ⟨by decide, fun v w h => h⟩)
              · exact fun g b h => by (cases h; exact ⟨by decide, fun v w h => h⟩)
              · exact fun g b h => by (cases h; exact ⟨by decide, fun v w h => h⟩)
              · exact fun g b h => by (cases h; exact ⟨by decide, fun v w h => h⟩)
              · exact fun g b h => by (cases h; exact ⟨by decide, fun v w h => h⟩)
              · exact fun g b h => by (cases h; exact ⟨by decide, fun v w h => h⟩)
              · exact fun g b h => by (cases h; exact ⟨by decide, fun v w h => h⟩)
              · exact fun g b h => by (cases h; exact ⟨by decide, fun v w h => h⟩)
              · exact fun g b h => by (cases h; exact ⟨by decide, fun v w h => h⟩)
              · exact fun g b h => by (cases h)
            · exact fun _ _ => keeps_refl wf
            · refine ⟨?_, ?_, ?_, ?_, ?_, ?_, ?_, ?_, ?_, ?_, ?_, ?_, ?_, ?_, ?_, ?_, ?_, ?_, trivial⟩
              · intro _ a w1 vs hI ho hn hu K hK
                have e4 : a.tmps[4]? = some (.pointer (some ⟨F, 0, none⟩)) := ho 4 rfl
                clear hn ho hu
                have c0 := keeps_cell hI E0.out
                have c1 := keeps_cell hI E1.out
                have c2 := keeps_cell hI E2.out
                have c3 := keeps_cell hI E3.out
                go_simp
                exact hK _ _ (keeps_refl _) hI rfl
              · intro _ a w1 vs hI ho hn hu K hK
                obtain ⟨e12, g12⟩ : a.tmps[12]? = some (vs 0) ∧ vs 0 = .agg #[.string n, .bool d, .int .i64 z, .slice pc m qc] := hn 0 (by decide)
                rw [g12] at e12
                clear g12
                clear hn ho hu
                go_simp
                refine Calls.mono (HMAY.out _ (SeqAt.keeps HTX.out hI)) ?_
                rintro e w' ⟨rfl, hk2⟩
                go_simp
                exact hK _ _ hk2 (Keeps.trans hI hk2) rfl
              · intro _ a w1 vs hI ho hn hu K hK
                obtain ⟨e13, g13⟩ : a.tmps[13]? = some (vs 1) ∧ vs 1 = .bool true := hn 1 (by decide)
                rw [g13] at e13
                clear g13
                clear hn ho hu
                go_simp
                exact hK _ _ (keeps_refl _) hI rfl
              · intro _ a w1 vs hI ho hn hu K hK
                obtain ⟨e14, g14⟩ : a.tmps[14]? = some (vs 2) ∧ vs 2 = .bool false := hn 2 (by decide)
                rw [g14] at e14
                clear g14
                clear hn ho hu
                go_simp
                exact hK _ _ (keeps_refl _) hI rfl
              · intro _ a w1 vs hI ho hn hu K hK
                have e3 : a.tmps[3]? = some (.int .i64 (k : Int)) := ho 3 rfl
                clear hn ho hu
                go_simp
                exact hK _ _ (keeps_refl _) hI rfl
              · intro _ a w1 vs hI ho hn hu K hK
                obtain ⟨e16, g16⟩ : a.tmps[16]? = some (vs 4) ∧ vs 4 = .int .i64 (k : Int) := hn 4 (by decide)
                rw [g16] at e16
                clear g16
                clear hn ho hu
                have q1 := HG.out.1
                have q2 := HG.out.2
                go_simp
                exact hK _ _ (keeps_refl _) hI rfl
              · intro _ a w1 vs hI ho hn hu K hK
                obtain ⟨e17, g17⟩ : a.tmps[17]? = some (vs 5) ∧ vs 5 = .bool true := hn 5 (by decide)
                rw [g17] at e17
                clear g17
                clear hn ho hu
                go_simp
                exact hK _ _ (keeps_refl _) hI rfl
              · intro _ a w1 vs hI ho hn hu K hK
                have e0 : a.tmps[0]? = some (.slice (some ⟨b1, o1, none⟩) l.length q) := ho 0 rfl
                clear hn ho hu
                go_simp
                exact hK _ _ (keeps_refl _) hI rfl
              · intro _ a w1 vs hI ho hn hu K hK
                have e3 : a.tmps[3]? = some (.int .i64 (k : Int)) := ho 3 rfl
                clear hn ho hu
                go_simp
                exact hK _ _ (keeps_refl _) hI rfl
              · intro _ a w1 vs hI ho hn hu K hK
                obtain ⟨e20, g20⟩ : a.tmps[20]? = some (vs 8) ∧ vs 8 = .int .i64 (k : Int) := hn 8 (by decide)
                rw [g20] at e20
                clear g20
                clear hn ho hu
                have q1 := HW.out.resolve_left HK0.out
                go_simp
                exact hK _ _ (keeps_refl _) hI rfl
              · intro _ a w1 vs hI ho hn hu K hK
                obtain ⟨e19, g19⟩ : a.tmps[19]? = some (vs 7) ∧ vs 7 = .slice (some ⟨b1, o1, none⟩) l.length q := hn 7 (by decide)
                rw [g19] at e19
                clear g19
                obtain ⟨e21, g21⟩ : a.tmps[21]? = some (vs 9) ∧ vs 9 = .int .i64 (kp : Int) := hn 9 (by decide)
                rw [g21] at e21
                clear g21
                clear hn ho hu
                have i1 := HB.out.1
                have i2 := HB.out.2
                go_simp
                exact hK _ _ (keeps_refl _) hI rfl
              · intro _ a w1 vs hI ho hn hu K hK
                obtain ⟨e22, g22⟩ : a.tmps[22]? = some (vs 10) ∧ vs 10 = .pointer (some ⟨b1, o1 + kp * 4, none⟩) := hn 10 (by decide)
                rw [g22] at e22
                clear g22
                clear hn ho hu
                go_simp
                exact hK _ _ (keeps_refl _) hI rfl
              · intro _ a w1 vs hI ho hn hu K hK
                obtain ⟨e23, g23⟩ : a.tmps[23]? = some (vs 11) ∧ vs 11 = .pointer (some ⟨b1, o1 + kp * 4, none⟩) := hn 11 (by decide)
                rw [g23] at e23
                clear g23
                clear hn ho hu
                have c0 := keeps_cell hI Q0.out
                go_simp
                exact hK _ _ (keeps_refl _) hI rfl
              · intro _ a w1 vs hI ho hn hu K hK
                have e4 : a.tmps[4]? = some (.pointer (some ⟨F, 0, none⟩)) := ho 4 rfl
                clear hn ho hu
                go_simp
                exact hK _ _ (keeps_refl _) hI rfl
              · intro _ a w1 vs hI ho hn hu K hK
                obtain ⟨e25, g25⟩ : a.tmps[25]? = some (vs 13) ∧ vs 13 = .pointer (some ⟨F, 0, none⟩) := hn 13 (by decide)
                rw [g25] at e25
                clear g25
                clear hn ho hu
                have c0 := keeps_cell hI E0.out
                go_simp
                exact hK _ _ (keeps_refl _) hI rfl
              · intro _ a w1 vs hI ho hn hu K hK
                obtain ⟨e24, g24⟩ : a.tmps[24]? = some (vs 12) ∧ vs 12 = .string Pn := hn 12 (by decide)
                rw [g24] at e24
                clear g24
                obtain ⟨e26, g26⟩ : a.tmps[26]? = some (vs 14) ∧ vs 14 = .string n := hn 14 (by decide)
                rw [g26] at e26
                clear g26
                clear hn ho hu
                have q1 := HGE.out
                go_simp
                exact hK _ _ (keeps_refl _) hI rfl
              · intro _ a w1 vs hI ho hn hu K hK
                obtain ⟨e18, g18⟩ : a.tmps[18]? = some (vs 6) ∧ vs 6 = .bool true := hn 6 (by decide)
                rw [g18] at e18
                clear g18
                obtain ⟨e27, g27⟩ : a.tmps[27]? = some (vs 15) ∧ vs 15 = .bool false := hn 15 (by decide)
                rw [g27] at e27
                clear g27
                clear hn ho hu
                go_simp
                exact hK _ _ (keeps_refl _) hI rfl
              · intro _ a w1 vs hI ho hn hu K hK
                obtain ⟨e15, g15⟩ : a.tmps[15]? = some (vs 3) ∧ vs 3 = .bool false := hn 3 (by decide)
                rw [g15] at e15
                clear g15
                obtain ⟨e28, g28⟩ : a.tmps[28]? = some (vs 16) ∧ vs 16 = .bool false := hn 16 (by decide)
                rw [g28] at e28
                clear g28
                clear hn ho hu
                go_simp
                exact hK _ _ (keeps_refl _) hI rfl
            · intro vs wE hI hG
              have eL17 : vs 17 = .bool false := hG 17 (by decide)
              have HKE := Lib.hid hI
              clear hG hI
              simp only [setAll, Nat.zero_add, Nat.reduceAdd, List.setIfInBounds_toArray, List.set_cons_zero, List.set_cons_succ, eL17]
              clear eL17
              generalize vs 0 = y0 at *
              generalize vs 1 = y1 at *
              generalize vs 2 = y2 at *
              generalize vs 3 = y3 at *
              generalize vs 4 = y4 at *
              generalize vs 5 = y5 at *
              generalize vs 6 = y6 at *
              generalize vs 7 = y7 at *
              generalize vs 8 = y8 at *
              generalize vs 9 = y9 at *
              generalize vs 10 = y10 at *
              generalize vs 11 = y11 at *
              generalize vs 12 = y12 at *
              generalize vs 13 = y13 at *
              generalize vs 14 = y14 at *
              generalize vs 15 = y15 at *
              generalize vs 16 = y16 at *
              have HKW := Lib.hid (HKF.out.trans HKE.out)
              clear HKE
              go_wp2_with fail
              refine ⟨?_, by simp [intOf]; omega⟩
              first | exact ⟨k + 1, by omega, by go_num, HN3, HKW⟩ | ((repeat apply Exists.intro); exact ⟨⟨k + 1, by omega, by go_num, HN3, HKW⟩, rfl⟩)
    · obtain rfl : k = l.length := by omega
      have HT : Hid (mayL l = decide (l.length ≤ 256)) := by
        show _ = _
        unfold mayL
        rw [List.all_eq_true.2 fun i hi => hN.out i (List.mem_range.1 hi), Bool.and_true]
      by_cases h256 : l.length ≤ 256
      · have g1 : decide ((l.length : Int) ≤ 256) = true := decide_eq_true (by omega)
        rw [decide_eq_true h256] at HT
        clear h256
        go_wp2_with fail
        go_ret
        exact ⟨by rw [HT.out]; rfl, hK.out⟩
      · have g1 : decide ((l.length : Int) ≤ 256) = false := decide_eq_false (by omega)
        rw [decide_eq_false h256] at HT
        clear h256
        go_wp2_with fail
        go_ret
        exact ⟨by rw [HT.out]; rfl, hK.out⟩
end Go.Proofs.YtdpfanifagfciaaDoor
/- The walk of node.Make. Printed by genmk19.py. -/
namespace Go.Proofs.YtdpfanifagfciaaDoor
open Go.RowKit
attribute [local go_sem ↓] Go.wp_at_zero Go.wp_at_succ
/-- An entry's bytes. -/
def kindB (x : EntR) : Nat := if x.d then 1 else 0
def flatC (c : List ByteArray) : List UInt8 := (c.map (·.data.toList)).flatten
def entB (x : EntR) : List UInt8 := numB (kindB x) 1 ++ numB x.n.size 1 ++ x.n.data.toList ++ numB x.z.toNat 4 ++ numB x.c.length 2 ++ flatC x.c
def makeTo (l : List EntR) (k : Nat) : List UInt8 := [100, 105, 114, 49] ++ numB l.length 2 ++ ((l.take k).map entB).flatten
def makeB (l : List EntR) : List UInt8 := makeTo l l.length
/-- A directory's bytes, or how it is refused. -/
def makeE (l : List EntR) : ByteArray × Int := if mayL l then (if 16384 < (makeB l).length then (⟨#[]⟩, 40) else (strB (makeB l), 0)) else (⟨#[]⟩, 4)
theorem makeTo_succ {l : List EntR} {k : Nat} (h : k < l.length) : makeTo l (k + 1) = makeTo l k ++ entB (eAt l k) := by
  unfold makeTo
  rw [take_eAt h, List.map_append, List.flatten_append]; simp
theorem join_flatC : ∀ xs : List (List UInt8), Lib.join xs [] = xs.flatten
  | [] => rfl
  | x :: xs => by
    have ih := join_flatC xs
    unfold Lib.join at *
    cases xs with
    | nil => simp
    | cons y xs => 
      show x ++ ([] ++ (List.intersperse [] (y :: xs)).flatten) = _
      rw [show (List.intersperse [] (y :: xs)).flatten = (y :: xs).flatten from ih]; rfl
theorem textcell0 {w : World} {p : Option Addr} {n c : Nat} {l : List ByteArray} (s : SeqAt IsText w.heap (.slice p n c) l) (h0 : 0 < l.length) : ∃ b off, p = some ⟨b, off, none⟩ ∧ n = l.length := by
  obtain ⟨b, off, c', u, e, _, _⟩ := seq_cell s h0
  injection e with e1 e2 _
  exact ⟨b, off, e1, e2⟩
theorem joinc_any (p : Option Addr) (q : Nat) (xs : List ByteArray) (w : World) (h : SeqAt IsText w.heap (.slice p xs.length q) xs) (hc : xs.length ≤ q) (hN : xs.length ≤ 1000000) (hlen : (flatC xs).length ≤ 140737488355328) :
    Calls Tryd.prog 52 #[.slice p xs.length q, .string ⟨#[]⟩] w fun e w' => e = .returned (.string (strB (flatC xs))) ∧ Keeps w w' := by
  rcases Nat.eq_zero_or_pos xs.length with h0 | h0
  · obtain rfl := List.length_eq_zero_iff.1 h0
    exact (Sh.strings_Join_none p q ⟨#[]⟩ w).mono fun e w' ⟨h1, h2⟩ => ⟨h1, by rw [h2]; exact keeps_refl _⟩
  · obtain ⟨b, o, rfl, _⟩ := textcell0 h h0
    have hcell : ∀ (j : Nat) x, xs[j]? = some x → w.cell? ⟨b, o + j, none⟩ = some (.string x) := fun j x hj => by
      obtain ⟨hj1, hj2⟩ := List.getElem?_eq_some_iff.1 hj
      obtain ⟨u, h1, h2⟩ := seq_at h hj1
      rw [h1, h2, hj2]
    have hb : b < w.heap.size := by
      obtain ⟨u, h1, _⟩ := seq_at h h0
      exact cell_lt h1
    have e0 : (⟨#[]⟩ : ByteArray).data.toList = [] := rfl
    refine (Sh.strings_Join b o q xs ⟨#[]⟩ w hcell hb (by omega) hc (by rw [e0, join_flatC]; exact hlen)).mono fun e w' ⟨h1, h2⟩ => ⟨?_, h2.kept⟩
    rw [h1, e0, join_flatC]; rfl
/-- What may be: its numbers. -/
theorem mayE_nums {x : EntR} (h : mayE x = true) : 0 ≤ x.z ∧ x.z ≤ 16384 ∧ x.c.length ≤ 16384 ∧ x.n.size ≤ 96 ∧ ∀ s ∈ x.c, s.size = 32 := by
  unfold mayE at h
  rw [Bool.and_eq_true, Bool.not_eq_true', Bool.or_eq_false_iff, Bool.or_eq_false_iff, Bool.not_eq_false'] at h
  obtain ⟨⟨⟨h1, _⟩, h3⟩, h4⟩ := h
  have hn := (mayPath_iff.1 h1).1
  rw [data_size] at hn
  have hc : ∀ s ∈ x.c, s.size = 32 := fun s hs => by
    have := List.any_eq_false.1 h3 s hs
    unfold oddC at this
    simpa using this
  cases hd : x.d with
  | true =>
    rw [hd] at h4
    simp at h4
    exact ⟨by omega, by omega, by omega, hn, hc⟩
  | false =>
    rw [hd] at h4
    simp at h4
    exact ⟨by omega, by omega, by omega, hn, hc⟩
theorem flatC_length {c : List ByteArray} (h : ∀ s ∈ c, s.size = 32) : (flatC c).length = 32 * c.length := by
  induction c with
  | nil => rfl
  | cons s c ih =>
    have h1 := h s (List.mem_cons_self ..)
    have h2 := ih fun y hy => h y (List.mem_cons_of_mem _ hy)
    unfold flatC at *
    rw [List.map_cons, List.flatten_cons, List.length_append, h2, data_size, h1, List.length_cons]; omega
theorem entB_length {x : EntR} (h : mayE x = true) : (entB x).length = 8 + x.n.size + 32 * x.c.length := by
  unfold entB
  simp only [List.length_append, numB_length, data_size, flatC_length (mayE_nums h).2.2.2.2]
  omega
theorem mayL_at {l : List EntR} (h : mayL l = true) {k : Nat} (hk : k < l.length) : mayE (eAt l k) = true := by
  unfold mayL at h
  rw [Bool.and_eq_true, List.all_eq_true] at h
  have := h.2 k (List.mem_range.2 hk)
  unfold okE at this
  rw [Bool.and_eq_true] at this
  exact this.1
theorem makeTo_length {l : List EntR} (h : mayL l = true) : ∀ k, k ≤ l.length → (makeTo l k).length ≤ 6 + k * 600000
  | 0, _ => by unfold makeTo; simp [numB_length]
  | k + 1, hk => by
    have ih := makeTo_length h k (by omega)
    rw [makeTo_succ (by omega), List.length_append, entB_length (mayL_at h (by omega))]
    obtain ⟨_, _, h3, h4, _⟩ := mayE_nums (mayL_at h (show k < l.length by omega))
    omega
theorem Bld.keeps {B b : Nat} {l : List UInt8} {w w' : World} (h : Bld B b l w) (c : Keeps w w') : Bld B b l w' := by
  have key : ∀ p, Lib.BuilderAtF 70 5 B b p (Lib.byteCells l) w → Lib.BuilderAtF 70 5 B b p (Lib.byteCells l) w' := by
    rintro p ⟨h1, v, h2, h3, h4⟩
    have hlt : b < w.heap.size := (Array.getElem?_eq_some_iff.1 h2).1
    refine ⟨h1, v, ?_, ?_, h4⟩
    · rw [c.2.2.2.2 b hlt]; exact h2
    · obtain ⟨k1, k2⟩ := h3
      refine ⟨k1, ?_⟩
      rcases k2 with k2 | ⟨g, cap, cur, fz, e, hg, hh, r⟩
      · exact .inl k2
      · refine .inr ⟨g, cap, cur, fz, e, hg, ?_, r⟩
        have hlg : g < w.heap.size := (Array.getElem?_eq_some_iff.1 hh).1
        rw [c.2.2.2.2 g hlg]; exact hh
  exact h.elim (fun x => .inl (key _ x)) (fun x => .inr (key _ x))
def mk19I (wf wm : World) (Bk : Nat) (pre : List UInt8) (T46 : ByteArray) : Nat → (Nat → Value) → World → Prop
  | 0, _, w' => Keeps wf w'
  | _, _, w' => Bld Bk Bk (pre ++ T46.data.toList) w' ∧ Keeps wm w' 
def mk19F (F Bk m qc zn : Nat) (pc : Option Addr) (n T25 T29 T30 T33 T36 T37 T41 T42 T45 T46 : ByteArray) : Nat → Value → Prop
  | i, v => v = ([.int .i64 0, .string T25, .pointer (some ⟨F, 0, none⟩), .string n, .int .i64 (n.size : Int), .string T29, .string T30, .pointer (some ⟨F, 0, none⟩), .string n, .string T33, .pointer (some ⟨F, 2, none⟩), .int .i64 (zn : Int), .string T36, .string T37, .pointer (some ⟨F, 3, none⟩), .slice pc m qc, .int .i64 (m : Int), .string T41, .string T42, .pointer (some ⟨F, 3, none⟩), .slice pc m qc, .string T45, .string T46, .tuple #[.int .i64 (T46.size : Int), .nilIface]] : List Value).getD i undef
def mk19T (F Bk m qc zn : Nat) (pc : Option Addr) (n T25 T29 T30 T33 T36 T37 T41 T42 T45 T46 : ByteArray) : Nat → Value → Prop
  | i, v => v = ([.int .i64 1, .string T25, .pointer (some ⟨F, 0, none⟩), .string n, .int .i64 (n.size : Int), .string T29, .string T30, .pointer (some ⟨F, 0, none⟩), .string n, .string T33, .pointer (some ⟨F, 2, none⟩), .int .i64 (zn : Int), .string T36, .string T37, .pointer (some ⟨F, 3, none⟩), .slice pc m qc, .int .i64 (m : Int), .string T41, .string T42, .pointer (some ⟨F, 3, none⟩), .slice pc m qc, .string T45, .string T46, .tuple #[.int .i64 (T46.size : Int), .nilIface]] : List Value).getD i undef
set_option maxRecDepth 100000 in
set_option maxHeartbeats 8000000 in
theorem nmake_any (v : Value) (l : List EntR) (w : World) (h : EntsAt w.heap v l) : Calls Tryd.prog 20 #[v] w fun e w' => e = .returned (.tuple #[.string (makeE l).1, .int .i64 (makeE l).2]) ∧ Keeps w w' := by
  obtain ⟨p, q, rfl⟩ := rec_shape h
  have H := Lib.hid h
  clear h
  cases hm : mayL l with
  | false =>
    have HE : Hid (makeE l = (⟨#[]⟩, 4)) := by show _ = _; unfold makeE; rw [hm]; rfl
    have HM := Lib.hid hm
    clear hm
    go_enter Tryd.func20, Tryd.ntmps20
    go_wp2_with fail
    refine Calls.mono (nmay_any _ l _ H.out) ?_
    rintro e wm ⟨rfl, hk⟩
    rw [HM.out]
    go_wp2_with fail
    go_ret2
    rw [HE.out]
    exact ⟨rfl, hk⟩
  | true =>
  have HM := Lib.hid hm
  have hl256 : l.length ≤ 256 := by unfold mayL at hm; rw [Bool.and_eq_true, decide_eq_true_eq] at hm; exact hm.1
  clear hm
  have HN2 := Lib.hid (fun wx => number_any l.length 2 wx (by omega) (by omega))
  go_enter Tryd.func20, Tryd.ntmps20
  go_wp2_with fail
  refine Calls.mono (nmay_any _ l _ H.out) ?_
  rintro e wm ⟨rfl, hk⟩
  rw [HM.out]
  have HK1 := Lib.hid hk
  clear hk
  go_wp2_with fail
  refine Calls.mono (HN2.out _) ?_
  rintro e w2 ⟨rfl, hk⟩
  have HB2 := Lib.hid (Bld.keeps (Bld.new wm) hk)
  have HK2 : Hid (Keeps wm w2) := Keeps.trans (kal _ _) hk
  have hsz2 : wm.heap.size < w2.heap.size := by have := hk.size; simp at this; omega
  clear hk HN2
  obtain ⟨Y, hY⟩ : ∃ Y, (⟨#[100, 105, 114, 49]⟩ : ByteArray) ++ strB (numB l.length 2) = Y := ⟨_, rfl⟩
  have hz2 : (strB (numB l.length 2)).size = 2 := by rw [strB_size, numB_length]
  have HY : Hid (Y.data.toList = makeTo l 0) := by show _ = _; rw [← hY]; unfold makeTo strB; simp
  have HYS : Hid (Y.size = 6) := by show _ = _; rw [← hY, ByteArray.size_append, hz2]; rfl
  generalize strB (numB l.length 2) = N2 at *
  go_wp2_with fail
  refine Calls.mono (wtext_any wm.heap.size wm.heap.size [] Y _ HB2.out (by have := HYS.out; simp; omega) (by omega)) ?_
  rintro e w3 ⟨rfl, hb3, hk3⟩
  have HB3 : Hid (Bld wm.heap.size wm.heap.size (makeTo l 0) w3) := by show Bld _ _ _ _; rw [← HY.out]; exact hb3
  have HK3 : Hid (Keeps wm w3) := HK2.out.then (B' := wm.heap.size) hk3.1.kept (Nat.le_refl _)
  have hsz3 : wm.heap.size < w3.heap.size := by have := hk3.1.size; omega
  clear hb3 hk3 HB2 HK2 hY hz2 hsz2
  have HML := Lib.hid (makeTo_length HM.out)
  go_wp2_with fail
  go_loopw [18] (fun i wr => ∃ k : Nat, k ≤ l.length ∧ i = .int .i64 k ∧ Hid (Bld wm.heap.size wm.heap.size (makeTo l k) wr) ∧ Hid (Keeps wm wr)) (fun i _ => l.length - (intOf i).toNat)
  case atStart => exact ⟨0, by omega, rfl, by exact HB3, by exact HK3⟩
  case round =>
    obtain ⟨k, hk, rfl, hB, hK⟩ := hrel
    by_cases hlt : k < l.length
    · have hlt64 : (k : Int) < (l.length : Int) := by omega
      have hk0 : (0 : Int) ≤ (k : Int) := by omega
      obtain ⟨b1, o1, pc, qc, rfl, _, a0, a1, a2, a3, ht, hq⟩ := ent_cell (EntsAt.keeps H.out (HK1.out.trans hK.out)) hlt
      obtain ⟨hz0, hz1, hc0, hn0, hs0⟩ := mayE_nums (mayL_at HM.out hlt)
      have HEL := Lib.hid (entB_length (mayL_at HM.out hlt))
      have HMS := Lib.hid (makeTo_succ hlt)
      have HKD : Hid (kindB (eAt l k) = if (eAt l k).d then 1 else 0) := rfl
      obtain ⟨zn, hzn⟩ := Int.eq_ofNat_of_zero_le hz0
      rw [hzn] at a2 hz1
      have HEB : Hid (entB (eAt l k) = numB (kindB (eAt l k)) 1 ++ numB (eAt l k).n.size 1 ++ (eAt l k).n.data.toList ++ numB zn 4 ++ numB (eAt l k).c.length 2 ++ flatC (eAt l k).c) := by
        show _ = _; unfold entB; rw [hzn]; rfl
      have HFC := Lib.hid (flatC_length hs0)
      have HTX := Lib.hid ht
      have HQ := Lib.hid hq
      have hml := HML.out k (by omega)
      clear hz0 hzn hs0 ht hq
      generalize kindB (eAt l k) = kd at *
      generalize (eAt l k).n = n at *
      generalize (eAt l k).d = d at *
      generalize (eAt l k).c = c at *
      generalize (eAt l k).z = z at *
      generalize entB (eAt l k) = EB at *
      have HON := Lib.hid (entA_one n d (zn : Int) pc c.length qc)
      have HN29 := Lib.hid (fun wx => number_any n.size 1 wx (by omega) (by omega))
      have HN36 := Lib.hid (fun wx => number_any zn 4 wx (by omega) (by omega))
      have HN41 := Lib.hid (fun wx => number_any c.length 2 wx (by omega) (by omega))
      have HN25 := Lib.hid (fun wx => number_any kd 1 wx (by omega) (by have := HKD.out; split at this <;> omega))
      obtain ⟨pre, hpre⟩ : ∃ pre, makeTo l k = pre := ⟨_, rfl⟩
      rw [hpre] at hB HMS hml
      obtain ⟨T25, h25⟩ : ∃ T, strB (numB kd 1) = T := ⟨_, rfl⟩
      obtain ⟨T29, h29⟩ : ∃ T, strB (numB n.size 1) = T := ⟨_, rfl⟩
      obtain ⟨T36, h36⟩ : ∃ T, strB (numB zn 4) = T := ⟨_, rfl⟩
      obtain ⟨T41, h41⟩ : ∃ T, strB (numB c.length 2) = T := ⟨_, rfl⟩
      obtain ⟨T45, h45⟩ : ∃ T, strB (flatC c) = T := ⟨_, rfl⟩
      obtain ⟨T30, h30⟩ : ∃ T, T25 ++ T29 = T := ⟨_, rfl⟩
      obtain ⟨T33, h33⟩ : ∃ T, T30 ++ n = T := ⟨_, rfl⟩
      obtain ⟨T37, h37⟩ : ∃ T, T33 ++ T36 = T := ⟨_, rfl⟩
      obtain ⟨T42, h42⟩ : ∃ T, T37 ++ T41 = T := ⟨_, rfl⟩
      obtain ⟨T46, h46⟩ : ∃ T, T42 ++ T45 = T := ⟨_, rfl⟩
      rw [h25] at HN25
      rw [h29] at HN29
      rw [h36] at HN36
      rw [h41] at HN41
      have z25 : T25.size = 1 := by rw [← h25, strB_size, numB_length]
      have z29 : T29.size = 1 := by rw [← h29, strB_size, numB_length]
      have z36 : T36.size = 4 := by rw [← h36, strB_size, numB_length]
      have z41 : T41.size = 2 := by rw [← h41, strB_size, numB_length]
      have z45 : T45.size = 32 * c.length := by rw [← h45, strB_size, HFC.out]
      have z30 : T30.size = 2 := by rw [← h30, ByteArray.size_append, z25, z29]
      have z33 : T33.size = 2 + n.size := by rw [← h33, ByteArray.size_append, z30]
      have z37 : T37.size = 2 + n.size + 4 := by rw [← h37, ByteArray.size_append, z33, z36]
      have z42 : T42.size = 2 + n.size + 4 + 2 := by rw [← h42, ByteArray.size_append, z37, z41]
      have z46 : T46.size = 2 + n.size + 4 + 2 + 32 * c.length := by rw [← h46, ByteArray.size_append, z42, z45]
      have HT46 : Hid (T46.data.toList = EB) := by
        show _ = _
        rw [HEB.out, ← h46, ← h42, ← h37, ← h33, ← h30, ← h25, ← h29, ← h36, ← h41, ← h45]
        simp [strB]
      rw [← HT46.out] at HMS
      have X30 : Hid (T25 ++ T29 = T30 ∧ (9223372036854775807 < T25.size + T29.size) = False) := ⟨h30, eq_false (by omega)⟩
      have X33 : Hid (T30 ++ n = T33 ∧ (9223372036854775807 < T30.size + n.size) = False) := ⟨h33, eq_false (by omega)⟩
      have X37 : Hid (T33 ++ T36 = T37 ∧ (9223372036854775807 < T33.size + T36.size) = False) := ⟨h37, eq_false (by omega)⟩
      have X42 : Hid (T37 ++ T41 = T42 ∧ (9223372036854775807 < T37.size + T41.size) = False) := ⟨h42, eq_false (by omega)⟩
      have X46 : Hid (T42 ++ T45 = T46 ∧ (9223372036854775807 < T42.size + T45.size) = False) := ⟨h46, eq_false (by omega)⟩
      have HLB : Hid (pre.length + T46.size ≤ 140737488355328) := by show _ ≤ _; omega
      have HJ : Hid (∀ wx, SeqAt IsText wx.heap (.slice pc c.length qc) c → Calls Tryd.prog 52 #[.slice pc c.length qc, .string ⟨#[]⟩] wx fun e w' => e = .returned (.string T45) ∧ Keeps wx w') := fun wx hh => by
        rw [← h45]
        exact joinc_any pc qc c wx hh HQ.out (by omega) (by rw [HFC.out]; omega)
      clear h25 h29 h36 h41 h45 h30 h33 h37 h42 h46 z25 z29 z36 z41 z45 z30 z33 z37 z42 z46 hpre HEB HFC hz1 hml hc0 hn0
      generalize hm9 : c.length = m at *
      clear hm9
      go_upto_region 8 with (refine wpList_store_row rfl 33 (.tmp 6) (.tmp 21) rfl wr.heap.size #[.string n, .bool d, .int .i64 (zn : Int), .slice pc m qc] rfl rfl 33 _ (heap_alloc_last wr _) (by kernel_rfl) rfl HON.out ?_; rw [World.setRow_alloc_new])
      have E0 : Hid ((wr.alloc (.cells #[.string n, .bool d, .int .i64 (zn : Int), .slice pc m qc] 33)).cell? ⟨wr.heap.size, 0, none⟩ = some (.string n)) := World.cell?_alloc_new _ _ _ _
      have e1 : (wr.alloc (.cells #[.string n, .bool d, .int .i64 (zn : Int), .slice pc m qc] 33)).cell? ⟨wr.heap.size, 1, none⟩ = some (.bool d) := World.cell?_alloc_new _ _ _ _
      have E2 : Hid ((wr.alloc (.cells #[.string n, .bool d, .int .i64 (zn : Int), .slice pc m qc] 33)).cell? ⟨wr.heap.size, 2, none⟩ = some (.int .i64 (zn : Int))) := World.cell?_alloc_new _ _ _ _
      have E3 : Hid ((wr.alloc (.cells #[.string n, .bool d, .int .i64 (zn : Int), .slice pc m qc] 33)).cell? ⟨wr.heap.size, 3, none⟩ = some (.slice pc m qc)) := World.cell?_alloc_new _ _ _ _
      have HBL0 : Hid (Bld wm.heap.size wm.heap.size pre (wr.alloc (.cells #[.string n, .bool d, .int .i64 (zn : Int), .slice pc m qc] 33))) := Bld.keeps hB.out (kal _ _)
      have HKF : Hid (Keeps wm (wr.alloc (.cells #[.string n, .bool d, .int .i64 (zn : Int), .slice pc m qc] 33))) := hK.out.trans (kal _ _)
      replace HTX := Lib.hid (SeqAt.keeps HTX.out (kal wr (.cells #[.string n, .bool d, .int .i64 (zn : Int), .slice pc m qc] 33)))
      clear a0 a1 a2 a3 hB hK
      generalize wr.alloc (.cells #[.string n, .bool d, .int .i64 (zn : Int), .slice pc m qc] 33) = wf at *
      generalize wr.heap.size = F at *
      have HBL : Hid (∀ wx, Keeps wf wx → Bld wm.heap.size wm.heap.size pre wx) := fun wx hk => Bld.keeps HBL0.out hk
      have HBZ : Hid (∀ wx, Keeps wf wx → wm.heap.size ≤ wx.heap.size) := fun wx hk => Nat.le_trans HKF.out.size hk.size
      have HKB : Hid (∀ wx wy, Keeps wf wx → BKept wm.heap.size wm.heap.size wx wy → Keeps wm wy) := fun wx wy hk hb => (HKF.out.trans hk).then (B' := wm.heap.size) hb.1.kept (Nat.le_refl _)
      have HN45 : Hid (∀ wx, Keeps wf wx → Calls Tryd.prog 52 #[.slice pc m qc, .string ⟨#[]⟩] wx fun e w' => e = .returned (.string T45) ∧ Keeps wx w') := fun wx hk => HJ.out wx (SeqAt.keeps HTX.out hk)
      clear HJ HTX HBL0 HKF
      cases d with
      | false =>
        obtain rfl : kd = 0 := HKD.out
        replace HN25 : Hid (∀ wx, Calls Tryd.prog 51 #[.int .i64 0, .int .i64 1] wx fun e w' => e = .returned (.string T25) ∧ Keeps wx w') := HN25.out
        clear HKD
        go_upto_region 11 with (fail)
        clear e1
        refine wp_region_stage [24, 25, 26, 27, 28, 29, 30, 31, 32, 33, 34, 35, 36, 37, 38, 39, 40, 41, 42, 43, 44, 45, 46, 47] [[], [0], [], [2], [3], [4], [1, 5], [], [7], [6, 8], [], [10], [11], [9, 12], [], [14], [15], [16], [13, 17], [], [19], [20], [18, 21], [22]] [23] [0, 0, 0, 0, 0, 0, 0, 0, 0, 0, 0, 0, 0, 0, 0, 0, 0, 0, 0, 0, 0, 0, 0, 0] [] (fun i v _ => mk19F F wm.heap.size m qc zn pc n T25 T29 T30 T33 T36 T37 T41 T42 T45 T46 i v) (fun _ _ => True) (mk19I wf wm wm.heap.size pre T46) (by kernel_rfl) (by kernel_rfl) (by kernel_rfl) (by kernel_rfl) (by kernel_rfl) (by kernel_rfl) (by kernel_rfl) ?_ ?_ ?_ ?_ ?_ ?_ ?_
        · exact fun i v w w' _ h => h
        · exact fun _ => trivial
        · exact fun i s vs w h => by cases h
        · refine ⟨?_, ?_, ?_, ?_, ?_, ?_, ?_, ?_, ?_, ?_, ?_, ?_, ?_, ?_, ?_, ?_, ?_, ?_, ?_, ?_, ?_, ?_, ?_, ?_, trivial⟩
          · exact fun g b h => by (cases h)
          · exact fun g b h => by (cases h)
          · exact fun g b h => by (cases h)
          · exact fun g b h => by (cases h)
          · exact fun g b h => by (cases h)
          · exact fun g b h => by (cases h)
          · exact fun g b h => by (cases h)
          · exact fun g b h => by (cases h)
          · exact fun g b h => by (cases h)
          · exact fun g b h => by (cases h)
          · exact fun g b h => by (cases h)
          · exact fun g b h => by (cases h)
          · exact fun g b h => by (cases h)
          · exact fun g b h => by (cases h)
          · exact fun g b h => by (cases h)
          · exact fun g b h => by (cases h)
          · exact fun g b h => by (cases h)
          · exact fun g b h => by (cases h)
          · exact fun g b h => by (cases h)
          · exact fun g b h => by (cases h)
          · exact fun g b h => by (cases h)
          · exact fun g b h => by (cases h)
          · exact fun g b h => by (cases h)
          · exact fun g b h => by (cases h)
        · exact fun _ _ => keeps_refl wf
        · refine ⟨?_, ?_, ?_, ?_, ?_, ?_, ?_, ?_, ?_, ?_, ?_, ?_, ?_, ?_, ?_, ?_, ?_, ?_, ?_, ?_, ?_, ?_, ?_, ?_, trivial⟩
          · intro _ a w1 vs hI ho hn hu K hK
            have e7 : a.tmps[7]? = some (.int .i64 0) := ho 7 rfl
            clear hn ho hu
            have hI : Keeps wf w1 := hI
            go_simp
            exact hK _ _ trivial hI rfl
          · intro _ a w1 vs hI ho hn hu K hK
            obtain ⟨e24, g24⟩ : a.tmps[24]? = some (vs 0) ∧ vs 0 = .int .i64 0 := hn 0 (by decide)
            rw [g24] at e24
            clear g24
            clear hn ho hu
            have hI : Keeps wf w1 := hI
            go_simp
            refine Calls.mono (HN25.out _) ?_
            rintro e w' ⟨rfl, hk2⟩
            go_simp
            exact hK _ _ trivial (Keeps.trans hI hk2) rfl
          · intro _ a w1 vs hI ho hn hu K hK
            have e6 : a.tmps[6]? = some (.pointer (some ⟨F, 0, none⟩)) := ho 6 rfl
            clear hn ho hu
            have hI : Keeps wf w1 := hI
            go_simp
            exact hK _ _ trivial hI rfl
          · intro _ a w1 vs hI ho hn hu K hK
            obtain ⟨e26, g26⟩ : a.tmps[26]? = some (vs 2) ∧ vs 2 = .pointer (some ⟨F, 0, none⟩) := hn 2 (by decide)
            rw [g26] at e26
            clear g26
            clear hn ho hu
            have hI : Keeps wf w1 := hI
            have c := keeps_cell hI E0.out
            go_simp
            exact hK _ _ trivial hI rfl
          · intro _ a w1 vs hI ho hn hu K hK
            obtain ⟨e27, g27⟩ : a.tmps[27]? = some (vs 3) ∧ vs 3 = .string n := hn 3 (by decide)
            rw [g27] at e27
            clear g27
            clear hn ho hu
            have hI : Keeps wf w1 := hI
            go_simp
            exact hK _ _ trivial hI rfl
          · intro _ a w1 vs hI ho hn hu K hK
            obtain ⟨e28, g28⟩ : a.tmps[28]? = some (vs 4) ∧ vs 4 = .int .i64 (n.size : Int) := hn 4 (by decide)
            rw [g28] at e28
            clear g28
            clear hn ho hu
            have hI : Keeps wf w1 := hI
            go_simp
            refine Calls.mono (HN29.out _) ?_
            rintro e w' ⟨rfl, hk2⟩
            go_simp
            exact hK _ _ trivial (Keeps.trans hI hk2) rfl
          · intro _ a w1 vs hI ho hn hu K hK
            obtain ⟨e25, g25⟩ : a.tmps[25]? = some (vs 1) ∧ vs 1 = .string T25 := hn 1 (by decide)
            rw [g25] at e25
            clear g25
            obtain ⟨e29, g29⟩ : a.tmps[29]? = some (vs 5) ∧ vs 5 = .string T29 := hn 5 (by decide)
            rw [g29] at e29
            clear g29
            clear hn ho hu
            have hI : Keeps wf w1 := hI
            have q1 := X30.out.1
            have q2 := X30.out.2
            go_simp
            exact hK _ _ trivial hI rfl
          · intro _ a w1 vs hI ho hn hu K hK
            have e6 : a.tmps[6]? = some (.pointer (some ⟨F, 0, none⟩)) := ho 6 rfl
            clear hn ho hu
            have hI : Keeps wf w1 := hI
            go_simp
            exact hK _ _ trivial hI rfl
          · intro _ a w1 vs hI ho hn hu K hK
            obtain ⟨e31, g31⟩ : a.tmps[31]? = some (vs 7) ∧ vs 7 = .pointer (some ⟨F, 0, none⟩) := hn 7 (by decide)
            rw [g31] at e31
            clear g31
            clear hn ho hu
            have hI : Keeps wf w1 := hI
            have c := keeps_cell hI E0.out
            go_simp
            exact hK _ _ trivial hI rfl
          · intro _ a w1 vs hI ho hn hu K hK
            obtain ⟨e30, g30⟩ : a.tmps[30]? = some (vs 6) ∧ vs 6 = .string T30 := hn 6 (by decide)
            rw [g30] at e30
            clear g30
            obtain ⟨e32, g32⟩ : a.tmps[32]? = some (vs 8) ∧ vs 8 = .string n := hn 8 (by decide)
            rw [g32] at e32
            clear g32
            clear hn ho hu
            have hI : Keeps wf w1 := hI
            have q1 := X33.out.1
            have q2 := X33.out.2
            go_simp
            exact hK _ _ trivial hI rfl
          · intro _ a w1 vs hI ho hn hu K hK
            have e6 : a.tmps[6]? = some (.pointer (some ⟨F, 0, none⟩)) := ho 6 rfl
            clear hn ho hu
            have hI : Keeps wf w1 := hI
            go_simp
            exact hK _ _ trivial hI rfl
          · intro _ a w1 vs hI ho hn hu K hK
            obtain ⟨e34, g34⟩ : a.tmps[34]? = some (vs 10) ∧ vs 10 = .pointer (some ⟨F, 2, none⟩) := hn 10 (by decide)
            rw [g34] at e34
            clear g34
            clear hn ho hu
            have hI : Keeps wf w1 := hI
            have c := keeps_cell hI E2.out
            go_simp
            exact hK _ _ trivial hI rfl
          · intro _ a w1 vs hI ho hn hu K hK
            obtain ⟨e35, g35⟩ : a.tmps[35]? = some (vs 11) ∧ vs 11 = .int .i64 (zn : Int) := hn 11 (by decide)
            rw [g35] at e35
            clear g35
            clear hn ho hu
            have hI : Keeps wf w1 := hI
            go_simp
            refine Calls.mono (HN36.out _) ?_
            rintro e w' ⟨rfl, hk2⟩
            go_simp
            exact hK _ _ trivial (Keeps.trans hI hk2) rfl
          · intro _ a w1 vs hI ho hn hu K hK
            obtain ⟨e33, g33⟩ : a.tmps[33]? = some (vs 9) ∧ vs 9 = .string T33 := hn 9 (by decide)
            rw [g33] at e33
            clear g33
            obtain ⟨e36, g36⟩ : a.tmps[36]? = some (vs 12) ∧ vs 12 = .string T36 := hn 12 (by decide)
            rw [g36] at e36
            clear g36
            clear hn ho hu
            have hI : Keeps wf w1 := hI
            have q1 := X37.out.1
            have q2 := X37.out.2
            go_simp
            exact hK _ _ trivial hI rfl
          · intro _ a w1 vs hI ho hn hu K hK
            have e6 : a.tmps[6]? = some (.pointer (some ⟨F, 0, none⟩)) := ho 6 rfl
            clear hn ho hu
            have hI : Keeps wf w1 := hI
            go_simp
            exact hK _ _ trivial hI rfl
          · intro _ a w1 vs hI ho hn hu K hK
            obtain ⟨e38, g38⟩ : a.tmps[38]? = some (vs 14) ∧ vs 14 = .pointer (some ⟨F, 3, none⟩) := hn 14 (by decide)
            rw [g38] at e38
            clear g38
            clear hn ho hu
            have hI : Keeps wf w1 := hI
            have c := keeps_cell hI E3.out
            go_simp
            exact hK _ _ trivial hI rfl
          · intro _ a w1 vs hI ho hn hu K hK
            obtain ⟨e39, g39⟩ : a.tmps[39]? = some (vs 15) ∧ vs 15 = .slice pc m qc := hn 15 (by decide)
            rw [g39] at e39
            clear g39
            clear hn ho hu
            have hI : Keeps wf w1 := hI
            go_simp
            exact hK _ _ trivial hI rfl
          · intro _ a w1 vs hI ho hn hu K hK
            obtain ⟨e40, g40⟩ : a.tmps[40]? = some (vs 16) ∧ vs 16 = .int .i64 (m : Int) := hn 16 (by decide)
            rw [g40] at e40
            clear g40
            clear hn ho hu
            have hI : Keeps wf w1 := hI
            go_simp
            refine Calls.mono (HN41.out _) ?_
            rintro e w' ⟨rfl, hk2⟩
            go_simp
            exact hK _ _ trivial (Keeps.trans hI hk2) rfl
          · intro _ a w1 vs hI ho hn hu K hK
            obtain ⟨e37, g37⟩ : a.tmps[37]? = some (vs 13) ∧ vs 13 = .string T37 := hn 13 (by decide)
            rw [g37] at e37
            clear g37
            obtain ⟨e41, g41⟩ : a.tmps[41]? = some (vs 17) ∧ vs 17 = .string T41 := hn 17 (by decide)
            rw [g41] at e41
            clear g41
            clear hn ho hu
            have hI : Keeps wf w1 := hI
            have q1 := X42.out.1
            have q2 := X42.out.2
            go_simp
            exact hK _ _ trivial hI rfl
          · intro _ a w1 vs hI ho hn hu K hK
            have e6 : a.tmps[6]? = some (.pointer (some ⟨F, 0, none⟩)) := ho 6 rfl
            clear hn ho hu
            have hI : Keeps wf w1 := hI
            go_simp
            exact hK _ _ trivial hI rfl
          · intro _ a w1 vs hI ho hn hu K hK
            obtain ⟨e43, g43⟩ : a.tmps[43]? = some (vs 19) ∧ vs 19 = .pointer (some ⟨F, 3, none⟩) := hn 19 (by decide)
            rw [g43] at e43
            clear g43
            clear hn ho hu
            have hI : Keeps wf w1 := hI
            have c := keeps_cell hI E3.out
            go_simp
            exact hK _ _ trivial hI rfl
          · intro _ a w1 vs hI ho hn hu K hK
            obtain ⟨e44, g44⟩ : a.tmps[44]? = some (vs 20) ∧ vs 20 = .slice pc m qc := hn 20 (by decide)
            rw [g44] at e44
            clear g44
            clear hn ho hu
            have hI : Keeps wf w1 := hI
            go_simp
            refine Calls.mono (HN45.out _ hI) ?_
            rintro e w' ⟨rfl, hk2⟩
            go_simp
            exact hK _ _ trivial (Keeps.trans hI hk2) rfl
          · intro _ a w1 vs hI ho hn hu K hK
            obtain ⟨e42, g42⟩ : a.tmps[42]? = some (vs 18) ∧ vs 18 = .string T42 := hn 18 (by decide)
            rw [g42] at e42
            clear g42
            obtain ⟨e45, g45⟩ : a.tmps[45]? = some (vs 21) ∧ vs 21 = .string T45 := hn 21 (by decide)
            rw [g45] at e45
            clear g45
            clear hn ho hu
            have hI : Keeps wf w1 := hI
            have q1 := X46.out.1
            have q2 := X46.out.2
            go_simp
            exact hK _ _ trivial hI rfl
          · intro _ a w1 vs hI ho hn hu K hK
            have e4 : a.tmps[4]? = some (.pointer (some ⟨wm.heap.size, 0, none⟩)) := ho 4 rfl
            obtain ⟨e46, g46⟩ : a.tmps[46]? = some (vs 22) ∧ vs 22 = .string T46 := hn 22 (by decide)
            rw [g46] at e46
            clear g46
            clear hn ho hu
            have hI : Keeps wf w1 := hI
            go_simp
            refine Calls.mono (wtext_any wm.heap.size wm.heap.size _ T46 _ (HBL.out _ hI) HLB.out (HBZ.out _ hI)) ?_
            rintro e w' ⟨rfl, hb2, hb3⟩
            go_simp
            exact hK _ _ trivial ⟨hb2, HKB.out _ _ hI hb3⟩ rfl
        · intro vs wE hI hG
          have HE : Hid (Bld wm.heap.size wm.heap.size (pre ++ T46.data.toList) wE ∧ Keeps wm wE) := hI
          clear hG hI
          simp only [setAll, Nat.zero_add, Nat.reduceAdd, List.setIfInBounds_toArray, List.set_cons_zero, List.set_cons_succ]
          generalize vs 0 = y0 at *
          generalize vs 1 = y1 at *
          generalize vs 2 = y2 at *
          generalize vs 3 = y3 at *
          generalize vs 4 = y4 at *
          generalize vs 5 = y5 at *
          generalize vs 6 = y6 at *
          generalize vs 7 = y7 at *
          generalize vs 8 = y8 at *
          generalize vs 9 = y9 at *
          generalize vs 10 = y10 at *
          generalize vs 11 = y11 at *
          generalize vs 12 = y12 at *
          generalize vs 13 = y13 at *
          generalize vs 14 = y14 at *
          generalize vs 15 = y15 at *
          generalize vs 16 = y16 at *
          generalize vs 17 = y17 at *
          generalize vs 18 = y18 at *
          generalize vs 19 = y19 at *
          generalize vs 20 = y20 at *
          generalize vs 21 = y21 at *
          generalize vs 22 = y22 at *
          generalize vs 23 = y23 at *
          have HB2 : Hid (Bld wm.heap.size wm.heap.size (makeTo l (k + 1)) wE) := by show Bld _ _ _ _; rw [HMS.out]; exact HE.out.1
          have HK2 : Hid (Keeps wm wE) := HE.out.2
          clear HE
          go_wp2_with fail
          refine ⟨?_, by simp [intOf]; omega⟩
          first | exact ⟨k + 1, by omega, by go_num, HB2, HK2⟩ | ((repeat apply Exists.intro); exact ⟨⟨k + 1, by omega, by go_num, HB2, HK2⟩, rfl⟩)
      | true =>
        obtain rfl : kd = 1 := HKD.out
        replace HN25 : Hid (∀ wx, Calls Tryd.prog 51 #[.int .i64 1, .int .i64 1] wx fun e w' => e = .returned (.string T25) ∧ Keeps wx w') := HN25.out
        clear HKD
        go_upto_region 11 with (fail)
        clear e1
        refine wp_region_stage [24, 25, 26, 27, 28, 29, 30, 31, 32, 33, 34, 35, 36, 37, 38, 39, 40, 41, 42, 43, 44, 45, 46, 47] [[], [0], [], [2], [3], [4], [1, 5], [], [7], [6, 8], [], [10], [11], [9, 12], [], [14], [15], [16], [13, 17], [], [19], [20], [18, 21], [22]] [23] [0, 0, 0, 0, 0, 0, 0, 0, 0, 0, 0, 0, 0, 0, 0, 0, 0, 0, 0, 0, 0, 0, 0, 0] [] (fun i v _ => mk19T F wm.heap.size m qc zn pc n T25 T29 T30 T33 T36 T37 T41 T42 T45 T46 i v) (fun _ _ => True) (mk19I wf wm wm.heap.size pre T46) (by kernel_rfl) (by kernel_rfl) (by kernel_rfl) (by kernel_rfl) (by kernel_rfl) (by kernel_rfl) (by kernel_rfl) ?_ ?_ ?_ ?_ ?_ ?_ ?_
        · exact fun i v w w' _ h => h
        · exact fun _ => trivial
        · exact fun i s vs w h => by cases h
        · refine ⟨?_, ?_, ?_, ?_, ?_, ?_, ?_, ?_, ?_, ?_, ?_, ?_, ?_, ?_, ?_, ?_, ?_, ?_, ?_, ?_, ?_, ?_, ?_, ?_, trivial⟩
          · exact fun g b h => by (cases h)
          · exact fun g b h => by (cases h)
          · exact fun g b h => by (cases h)
          · exact fun g b h => by (cases h)
          · exact fun g b h => by (cases h)
          · exact fun g b h => by (cases h)
          · exact fun g b h => by (cases h)
          · exact fun g b h => by (cases h)
          · exact fun g b h => by (cases h)
          · exact fun g b h => by (cases h)
          · exact fun g b h => by (cases h)
          · exact fun g b h => by (cases h)
          · exact fun g b h => by (cases h)
          · exact fun g b h => by (cases h)
          · exact fun g b h => by (cases h)
          · exact fun g b h => by (cases h)
          · exact fun g b h => by (cases h)
          · exact fun g b h => by (cases h)
          · exact fun g b h => by (cases h)
          · exact fun g b h => by (cases h)
          · exact fun g b h => by (cases h)
          · exact fun g b h => by (cases h)
          · exact fun g b h => by (cases h)
          · exact fun g b h => by (cases h)
        · exact fun _ _ => keeps_refl wf
        · refine ⟨?_, ?_, ?_, ?_, ?_, ?_, ?_, ?_, ?_, ?_, ?_, ?_, ?_, ?_, ?_, ?_, ?_, ?_, ?_, ?_, ?_, ?_, ?_, ?_, trivial⟩
          · intro _ a w1 vs hI ho hn hu K hK
            have e7 : a.tmps[7]? = some (.int .i64 1) := ho 7 rfl
            clear hn ho hu
            have hI : Keeps wf w1 := hI
            go_simp
            exact hK _ _ trivial hI rfl
          · intro _ a w1 vs hI ho hn hu K hK
            obtain ⟨e24, g24⟩ : a.tmps[24]? = some (vs 0) ∧ vs 0 = .int .i64 1 := hn 0 (by decide)
            rw [g24] at e24
            clear g24
            clear hn ho hu
            have hI : Keeps wf w1 := hI
            go_simp
            refine Calls.mono (HN25.out _) ?_
            rintro e w' ⟨rfl, hk2⟩
            go_simp
            exact hK _ _ trivial (Keeps.trans hI hk2) rfl
          · intro _ a w1 vs hI ho hn hu K hK
            have e6 : a.tmps[6]? = some (.pointer (some ⟨F, 0, none⟩)) := ho 6 rfl
            clear hn ho hu
            have hI : Keeps wf w1 := hI
            go_simp
            exact hK _ _ trivial hI rfl
          · intro _ a w1 vs hI ho hn hu K hK
            obtain ⟨e26, g26⟩ : a.tmps[26]? = some (vs 2) ∧ vs 2 = .pointer (some ⟨F, 0, none⟩) := hn 2 (by decide)
            rw [g26] at e26
            clear g26
            clear hn ho hu
            have hI : Keeps wf w1 := hI
            have c := keeps_cell hI E0.out
            go_simp
            exact hK _ _ trivial hI rfl
          · intro _ a w1 vs hI ho hn hu K hK
            obtain ⟨e27, g27⟩ : a.tmps[27]? = some (vs 3) ∧ vs 3 = .string n := hn 3 (by decide)
            rw [g27] at e27
            clear g27
            clear hn ho hu
            have hI : Keeps wf w1 := hI
            go_simp
            exact hK _ _ trivial hI rfl
          · intro _ a w1 vs hI ho hn hu K hK
            obtain ⟨e28, g28⟩ : a.tmps[28]? = some (vs 4) ∧ vs 4 = .int .i64 (n.size : Int) := hn 4 (by decide)
            rw [g28] at e28
            clear g28
            clear hn ho hu
            have hI : Keeps wf w1 := hI
            go_simp
            refine Calls.mono (HN29.out _) ?_
            rintro e w' ⟨rfl, hk2⟩
            go_simp
            exact hK _ _ trivial (Keeps.trans hI hk2) rfl
          · intro _ a w1 vs hI ho hn hu K hK
            obtain ⟨e25, g25⟩ : a.tmps[25]? = some (vs 1) ∧ vs 1 = .string T25 := hn 1 (by decide)
            rw [g25] at e25
            clear g25
            obtain ⟨e29, g29⟩ : a.tmps[29]? = some (vs 5) ∧ vs 5 = .string T29 := hn 5 (by decide)
            rw [g29] at e29
            clear g29
            clear hn ho hu
            have hI : Keeps wf w1 := hI
            have q1 := X30.out.1
            have q2 := X30.out.2
            go_simp
            exact hK _ _ trivial hI rfl
          · intro _ a w1 vs hI ho hn hu K hK
            have e6 : a.tmps[6]? = some (.pointer (some ⟨F, 0, none⟩)) := ho 6 rfl
            clear hn ho hu
            have hI : Keeps wf w1 := hI
            go_simp
            exact hK _ _ trivial hI rfl
          · intro _ a w1 vs hI ho hn hu K hK
            obtain ⟨e31, g31⟩ : a.tmps[31]? = some (vs 7) ∧ vs 7 = .pointer (some ⟨F, 0, none⟩) := hn 7 (by decide)
            rw [g31] at e31
            clear g31
            clear hn ho hu
            have hI : Keeps wf w1 := hI
            have c := keeps_cell hI E0.out
            go_simp
            exact hK _ _ trivial hI rfl
          · intro _ a w1 vs hI ho hn hu K hK
            obtain ⟨e30, g30⟩ : a.tmps[30]? = some (vs 6) ∧ vs 6 = .string T30 := hn 6 (by decide)
            rw [g30] at e30
            clear g30
            obtain ⟨e32, g32⟩ : a.tmps[32]? = some (vs 8) ∧ vs 8 = .string n := hn 8 (by decide)
            rw [g32] at e32
            clear g32
            clear hn ho hu
            have hI : Keeps wf w1 := hI
            have q1 := X33.out.1
            have q2 := X33.out.2
            go_simp
            exact hK _ _ trivial hI rfl
          · intro _ a w1 vs hI ho hn hu K hK
            have e6 : a.tmps[6]? = some (.pointer (some ⟨F, 0, none⟩)) := ho 6 rfl
            clear hn ho hu
            have hI : Keeps wf w1 := hI
            go_simp
            exact hK _ _ trivial hI rfl
          · intro _ a w1 vs hI ho hn hu K hK
            obtain ⟨e34, g34⟩ : a.tmps[34]? = some (vs 10) ∧ vs 10 = .pointer (some ⟨F, 2, none⟩) := hn 10 (by decide)
            rw [g34] at e34
            clear g34
            clear hn ho hu
            have hI : Keeps wf w1 := hI
            have c := keeps_cell hI E2.out
            go_simp
            exact hK _ _ trivial hI rfl
          · intro _ a w1 vs hI ho hn hu K hK
            obtain ⟨e35, g35⟩ : a.tmps[35]? = some (vs 11) ∧ vs 11 = .int .i64 (zn : Int) := hn 11 (by decide)
            rw [g35] at e35
            clear g35
            clear hn ho hu
            have hI : Keeps wf w1 := hI
            go_simp
            refine Calls.mono (HN36.out _) ?_
            rintro e w' ⟨rfl, hk2⟩
            go_simp
            exact hK _ _ trivial (Keeps.trans hI hk2) rfl
          · intro _ a w1 vs hI ho hn hu K hK
            obtain ⟨e33, g33⟩ : a.tmps[33]? = some (vs 9) ∧ vs 9 = .string T33 := hn 9 (by decide)
            rw [g33] at e33
            clear g33
            obtain ⟨e36, g36⟩ : a.tmps[36]? = some (vs 12) ∧ vs 12 = .string T36 := hn 12 (by decide)
            rw [g36] at e36
            clear g36
            clear hn ho hu
            have hI : Keeps wf w1 := hI
            have q1 := X37.out.1
            have q2 := X37.out.2
            go_simp
            exact hK _ _ trivial hI rfl
          · intro _ a w1 vs hI ho hn hu K hK
            have e6 : a.tmps[6]? = some (.pointer (some ⟨F, 0, none⟩)) := ho 6 rfl
            clear hn ho hu
            have hI : Keeps wf w1 := hI
            go_simp
            exact hK _ _ trivial hI rfl
          · intro _ a w1 vs hI ho hn hu K hK
            obtain ⟨e38, g38⟩ : a.tmps[38]? = some (vs 14) ∧ vs 14 = .pointer (some ⟨F, 3, none⟩) := hn 14 (by decide)
            rw [g38] at e38
            clear g38
            clear hn ho hu
            have hI : Keeps wf w1 := hI
            have c := keeps_cell hI E3.out
            go_simp
            exact hK _ _ trivial hI rfl
          · intro _ a w1 vs hI ho hn hu K hK
            obtain ⟨e39, g39⟩ : a.tmps[39]? = some (vs 15) ∧ vs 15 = .slice pc m qc := hn 15 (by decide)
            rw [g39] at e39
            clear g39
            clear hn ho hu
            have hI : Keeps wf w1 := hI
            go_simp
            exact hK _ _ trivial hI rfl
          · intro _ a w1 vs hI ho hn hu K hK
            obtain ⟨e40, g40⟩ : a.tmps[40]? = some (vs 16) ∧ vs 16 = .int .i64 (m : Int) := hn 16 (by decide)
            rw [g40] at e40
            clear g40
            clear hn ho hu
            have hI : Keeps wf w1 := hI
            go_simp
            refine Calls.mono (HN41.out _) ?_
            rintro e w' ⟨rfl, hk2⟩
            go_simp
            exact hK _ _ trivial (Keeps.trans hI hk2) rfl
          · intro _ a w1 vs hI ho hn hu K hK
            obtain ⟨e37, g37⟩ : a.tmps[37]? = some (vs 13) ∧ vs 13 = .string T37 := hn 13 (by decide)
            rw [g37] at e37
            clear g37
            obtain ⟨e41, g41⟩ : a.tmps[41]? = some (vs 17) ∧ vs 17 = .string T41 := hn 17 (by decide)
            rw [g41] at e41
            clear g41
            clear hn ho hu
            have hI : Keeps wf w1 := hI
            have q1 := X42.out.1
            have q2 := X42.out.2
            go_simp
            exact hK _ _ trivial hI rfl
          · intro _ a w1 vs hI ho hn hu K hK
            have e6 : a.tmps[6]? = some (.pointer (some ⟨F, 0, none⟩)) := ho 6 rfl
            clear hn ho hu
            have hI : Keeps wf w1 := hI
            go_simp
            exact hK _ _ trivial hI rfl
          · intro _ a w1 vs hI ho hn hu K hK
            obtain ⟨e43, g43⟩ : a.tmps[43]? = some (vs 19) ∧ vs 19 = .pointer (some ⟨F, 3, none⟩) := hn 19 (by decide)
            rw [g43] at e43
            clear g43
            clear hn ho hu
            have hI : Keeps wf w1 := hI
            have c := keeps_cell hI E3.out
            go_simp
            exact hK _ _ trivial hI rfl
          · intro _ a w1 vs hI ho hn hu K hK
            obtain ⟨e44, g44⟩ : a.tmps[44]? = some (vs 20) ∧ vs 20 = .slice pc m qc := hn 20 (by decide)
            rw [g44] at e44
            clear g44
            clear hn ho hu
            have hI : Keeps wf w1 := hI
            go_simp
            refine Calls.mono (HN45.out _ hI) ?_
            rintro e w' ⟨rfl, hk2⟩
            go_simp
            exact hK _ _ trivial (Keeps.trans hI hk2) rfl
          · intro _ a w1 vs hI ho hn hu K hK
            obtain ⟨e42, g42⟩ : a.tmps[42]? = some (vs 18) ∧ vs 18 = .string T42 := hn 18 (by decide)
            rw [g42] at e42
            clear g42
            obtain ⟨e45, g45⟩ : a.tmps[45]? = some (vs 21) ∧ vs 21 = .string T45 := hn 21 (by decide)
            rw [g45] at e45
            clear g45
            clear hn ho hu
            have hI : Keeps wf w1 := hI
            have q1 := X46.out.1
            have q2 := X46.out.2
            go_simp
            exact hK _ _ trivial hI rfl
          · intro _ a w1 vs hI ho hn hu K hK
            have e4 : a.tmps[4]? = some (.pointer (some ⟨wm.heap.size, 0, none⟩)) := ho 4 rfl
            obtain ⟨e46, g46⟩ : a.tmps[46]? = some (vs 22) ∧ vs 22 = .string T46 := hn 22 (by decide)
            rw [g46] at e46
            clear g46
            clear hn ho hu
            have hI : Keeps wf w1 := hI
            go_simp
            refine Calls.mono (wtext_any wm.heap.size wm.heap.size _ T46 _ (HBL.out _ hI) HLB.out (HBZ.out _ hI)) ?_
            rintro e w' ⟨rfl, hb2, hb3⟩
            go_simp
            exact hK _ _ trivial ⟨hb2, HKB.out _ _ hI hb3⟩ rfl
        · intro vs wE hI hG
          have HE : Hid (Bld wm.heap.size wm.heap.size (pre ++ T46.data.toList) wE ∧ Keeps wm wE) := hI
          clear hG hI
          simp only [setAll, Nat.zero_add, Nat.reduceAdd, List.setIfInBounds_toArray, List.set_cons_zero, List.set_cons_succ]
          generalize vs 0 = y0 at *
          generalize vs 1 = y1 at *
          generalize vs 2 = y2 at *
          generalize vs 3 = y3 at *
          generalize vs 4 = y4 at *
          generalize vs 5 = y5 at *
          generalize vs 6 = y6 at *
          generalize vs 7 = y7 at *
          generalize vs 8 = y8 at *
          generalize vs 9 = y9 at *
          generalize vs 10 = y10 at *
          generalize vs 11 = y11 at *
          generalize vs 12 = y12 at *
          generalize vs 13 = y13 at *
          generalize vs 14 = y14 at *
          generalize vs 15 = y15 at *
          generalize vs 16 = y16 at *
          generalize vs 17 = y17 at *
          generalize vs 18 = y18 at *
          generalize vs 19 = y19 at *
          generalize vs 20 = y20 at *
          generalize vs 21 = y21 at *
          generalize vs 22 = y22 at *
          generalize vs 23 = y23 at *
          have HB2 : Hid (Bld wm.heap.size wm.heap.size (makeTo l (k + 1)) wE) := by show Bld _ _ _ _; rw [HMS.out]; exact HE.out.1
          have HK2 : Hid (Keeps wm wE) := HE.out.2
          clear HE
          go_wp2_with fail
          refine ⟨?_, by simp [intOf]; omega⟩
          first | exact ⟨k + 1, by omega, by go_num, HB2, HK2⟩ | ((repeat apply Exists.intro); exact ⟨⟨k + 1, by omega, by go_num, HB2, HK2⟩, rfl⟩)
    · obtain rfl : k = l.length := by omega
      have HLE : Hid (makeE l = if 16384 < (makeTo l l.length).length then (⟨#[]⟩, 40) else (strB (makeTo l l.length), 0)) := by show _ = _; unfold makeE makeB; rw [HM.out]; rfl
      generalize makeTo l l.length = D at *
      go_wp2_with fail
      refine Calls.mono (blen_any _ _ D _ hB.out) ?_
      rintro e w4 ⟨rfl, hw4⟩
      rw [← hw4]
      clear hw4
      by_cases hz : 16384 < D.length
      · have g1 : decide ((16384 : Int) < (D.length : Int)) = true := decide_eq_true (by omega)
        rw [if_pos hz] at HLE
        clear hz
        go_wp2_with fail
        go_ret2
        rw [HLE.out]
        exact ⟨rfl, HK1.out.trans hK.out⟩
      · have g1 : decide ((16384 : Int) < (D.length : Int)) = false := decide_eq_false (by omega)
        rw [if_neg hz] at HLE
        clear hz
        have hszr := hK.out.size
        go_wp2_with fail
        refine Calls.mono (btext_any _ _ D _ hB.out (by omega)) ?_
        rintro e w5 ⟨rfl, _, hk5⟩
        have HK5 : Hid (Keeps wm w5) := hK.out.then (B' := wm.heap.size) hk5.1.kept (Nat.le_refl _)
        clear hk5
        go_wp2_with fail
        go_ret2
        rw [HLE.out]
        exact ⟨rfl, HK1.out.trans HK5.out⟩
end Go.Proofs.YtdpfanifagfciaaDoor
