/- Entries of a directory; what package node tells of them, as plain functions; the walks of node.number and of an entry's may. -/
import Derived.Test.YtdpfanifagfciaaDoorAwk
import Derived.Test.YtdpfanifagfciaaDoorIdxT
namespace Go.Proofs.YtdpfanifagfciaaDoor
open Go.RowKit
attribute [local go_sem ↓] Go.wp_at_zero Go.wp_at_succ
/-- An entry. -/
structure EntR where
  n : ByteArray
  d : Bool
  z : Int
  c : List ByteArray
instance : Inhabited EntR := ⟨⟨ByteArray.empty, false, 0, []⟩⟩
def IsEnt (h : Array Obj) (us : List Value) (x : EntR) : Prop := ∃ v, us = [.string x.n, .bool x.d, .int .i64 x.z, v] ∧ SeqAt IsText h v x.c ∧ ∀ a n q, v = .slice a n q → n ≤ q
abbrev EntsAt (h : Array Obj) (v : Value) (l : List EntR) : Prop := RecAt 4 (IsEnt h) h v l
theorem EntsAt.keeps {w w' : World} {v : Value} {l : List EntR} (s : EntsAt w.heap v l) (k : Keeps w w') : EntsAt w'.heap v l :=
  RecAt.keepsR s k fun _ _ _ ⟨v, e, t, c⟩ => ⟨v, e, SeqAt.keeps t k, c⟩
def eAt (l : List EntR) (i : Nat) : EntR := l.getD i default
theorem eAt_eq {l : List EntR} {i : Nat} (h : i < l.length) : eAt l i = l[i] := by unfold eAt; rw [List.getD_eq_getElem?_getD, List.getElem?_eq_getElem h]; rfl
theorem eAt_mem {l : List EntR} {i : Nat} (h : i < l.length) : eAt l i ∈ l := by rw [eAt_eq h]; exact List.getElem_mem h
theorem mem_eAt {l : List EntR} {x : EntR} (h : x ∈ l) : ∃ i, i < l.length ∧ eAt l i = x := by
  obtain ⟨i, hi, e⟩ := List.getElem_of_mem h
  exact ⟨i, hi, by rw [eAt_eq hi, e]⟩
theorem take_eAt {l : List EntR} {k : Nat} (h : k < l.length) : l.take (k + 1) = l.take k ++ [eAt l k] := by
  rw [eAt_eq h, List.take_succ_eq_append_getElem h]
theorem ent_cell {w : World} {p : Option Addr} {n c : Nat} {l : List EntR} (s : EntsAt w.heap (.slice p n c) l) {i : Nat} (hi : i < l.length) : ∃ b off pc qc, p = some ⟨b, off, none⟩ ∧ n = l.length ∧
    w.cell? ⟨b, off + i * 4, none⟩ = some (.string (eAt l i).n) ∧ w.cell? ⟨b, off + i * 4 + 1, none⟩ = some (.bool (eAt l i).d) ∧ w.cell? ⟨b, off + i * 4 + 2, none⟩ = some (.int .i64 (eAt l i).z) ∧
    w.cell? ⟨b, off + i * 4 + 3, none⟩ = some (.slice pc (eAt l i).c.length qc) ∧ SeqAt IsText w.heap (.slice pc (eAt l i).c.length qc) (eAt l i).c ∧ (eAt l i).c.length ≤ qc := by
  obtain ⟨b, off, c', us, e, _, h2, h3⟩ := rec_cell s hi
  obtain ⟨v, h3, h4, h5⟩ := h3
  subst h3
  injection e with e1 e2 _
  rw [eAt_eq hi]
  obtain ⟨pc, qc, rfl⟩ := seq_shape h4
  exact ⟨b, off, pc, qc, e1, e2, h2 0 (by simp), h2 1 (by simp), h2 2 (by simp), h2 3 (by simp), h4, h5 _ _ _ rfl⟩
theorem entA_one (n : ByteArray) (d : Bool) (z : Int) (p : Option Addr) (m q : Nat) : (#[.string n, .bool d, .int .i64 z, .slice p m q] : Array Value).all (·.oneCell') = true := by
  refine Array.all_eq_true_iff_forall_mem.2 fun v hv => ?_
  simp at hv
  rcases hv with rfl | rfl | rfl | rfl <;> rfl
/-- Has a text a slash? -/
def hasS (p : ByteArray) : Bool := decide (0 ≤ Lib.indexByte p.data.toList 47)
def oddC (s : ByteArray) : Bool := decide (s.size ≠ 32)
/-- May an entry be? -/
def mayE (x : EntR) : Bool := !(!mayPath x.n.data.toList || hasS x.n || x.c.any oddC) && (if x.d then decide (x.z = 0) && decide (x.c.length = 1) else decide (0 ≤ x.z) && decide (x.z ≤ 16384) && decide ((x.c.length : Int) ≤ x.z) && decide (x.z ≤ 1024 * (x.c.length : Int)))
def okE (l : List EntR) (k : Nat) : Bool := mayE (eAt l k) && (decide (k = 0) || lessT (eAt l (k - 1)).n (eAt l k).n)
def mayL (l : List EntR) : Bool := decide (l.length ≤ 256) && (List.range l.length).all (okE l)
/-- A number's bytes, so many. -/
def numAt (n m j : Nat) : UInt8 := UInt8.ofNat (n / 2 ^ (8 * (m - 1 - j)))
def numB (n m : Nat) : List UInt8 := (List.range m).map (numAt n m)
theorem numB_length (n m : Nat) : (numB n m).length = m := by unfold numB; simp
theorem num_val (n m k : Nat) : (n : Int) / 2 ^ (8 * (m - 1 - k)) % 256 = ((numAt n m k).toNat : Int) := by
  unfold numAt
  rw [UInt8.toNat_ofNat']
  have e : (n : Int) / 2 ^ (8 * (m - 1 - k)) = ((n / 2 ^ (8 * (m - 1 - k)) : Nat) : Int) := by
    rw [Int.natCast_ediv]; simp
  rw [e]; omega
set_option maxRecDepth 100000 in
set_option maxHeartbeats 4000000 in
theorem number_any (n m : Nat) (w : World) (hm : m ≤ 4) (hn : n ≤ 140737488355328) : Calls Tryd.prog 51 #[.int .i64 (n : Int), .int .i64 (m : Int)] w fun e w' => e = .returned (.string (strB (numB n m))) ∧ Keeps w w' := by
  go_enter Tryd.func51, Tryd.ntmps51
  go_wp2_with fail
  go_loopw [5, 6] (fun v i wr => ∃ j : Nat, j ≤ m ∧ i = .int .i64 ((m : Int) - 1 - (j : Int)) ∧ Hid (OwnSeq w.heap.size 5 IsByte wr v ((List.range j).map (numAt n m))) ∧ Hid (Keeps w wr)) (fun _ i _ => (intOf i + 1).toNat)
  case atStart => exact ⟨0, by omega, by go_num, by exact OwnSeq.nil _ _ _ _, keeps_refl w⟩
  case round =>
    obtain ⟨j, hj, rfl, hR, hK⟩ := hrel
    by_cases hlt : j < m
    · have g1 : decide ((0 : Int) ≤ (m : Int) - 1 - (j : Int)) = true := decide_eq_true (by omega)
      have g2 : (0 : Int) ≤ (m : Int) - 1 - (j : Int) := by omega
      have x0 : 0 ≤ 8 * ((m : Int) - 1 - (j : Int)) := by omega
      have x1 : (8 * ((m : Int) - 1 - (j : Int))).toNat = 8 * (m - 1 - j) := by omega
      have x3 : IntKind.i64.wrap ((m : Int) - 1 - (j : Int)) = (m : Int) - 1 - (j : Int) := IntWalk.i64_in _ (by omega)
      have x4 : IntKind.i64.wrap (8 * ((m : Int) - 1 - (j : Int))) = 8 * ((m : Int) - 1 - (j : Int)) := IntWalk.i64_in _ (by omega)
      have HV := Lib.hid (num_val n m j)
      obtain ⟨us, hu1, hu2, hu3⟩ := hR.out
      obtain ⟨pv, qv, rfl⟩ := own_slice hu1
      have HU := Lib.hid hu1
      have HL2 := Lib.hid hu2
      have HU3 := Lib.hid hu3
      have HL3 : Hid (us.length ≤ 4) := by show _ ≤ _; rw [hu2]; simp; omega
      have HSU : Hid ((List.range (j + 1)).map (numAt n m) = (List.range j).map (numAt n m) ++ [numAt n m j]) := by show _ = _; rw [List.range_succ, List.map_append]; rfl
      have hszk := hK.out.size
      clear hu1 hu2 hu3 hR
      go_wp2_with (at_builtin; refine frz ?_)
      unfold Frozen
      rw [HV.out]
      refine wp_app1 elByte rfl (.tmp 13) (.tmp 19) rfl w.heap.size (.slice pv us.length qv) us rfl (HU.out.alloc _) _ (.int .u8 ((numAt n m j).toNat : Int)) rfl (World.cell?_alloc_new _ _ _ _) rfl (by have := HL3.out; omega) (by simp; omega) ?_
      intro v' w7 hown hchg
      have HP7 := Lib.hid (OwnSeq.push (R := IsByte) (R' := IsByte) (l := (List.range j).map (numAt n m)) (x := numAt n m j) HL2.out HU3.out hown (fun _ _ _ x => x) rfl)
      have HK7 : Hid (Keeps w w7) := hK.out.then (chg_kept (B := w.heap.size) (Chg.trans (Kept.any (kal _ _)) hchg) (fun q _ e => (own_block HU.out q e).1) hK.out.size) (Nat.le_refl _)
      clear hown hchg
      go_wp2_with fail
      refine ⟨?_, by simp [intOf] <;> omega⟩
      first | exact ⟨j + 1, by omega, by go_num, by rw [HSU.out]; exact HP7, HK7⟩ | ((repeat apply Exists.intro); exact ⟨⟨j + 1, by omega, by go_num, by rw [HSU.out]; exact HP7, HK7⟩, rfl⟩)
    · obtain rfl : j = m := by omega
      have g1 : decide ((0 : Int) ≤ (j : Int) - 1 - (j : Int)) = false := decide_eq_false (by omega)
      have g2 : ¬ (0 : Int) ≤ (j : Int) - 1 - (j : Int) := by omega
      have hcv := conv_row (P := Tryd.prog) (src := 45) (dst := 9) (e := 5) Tryd.underlying45 (by kernel_rfl) Tryd.underlying9 (SeqIn.at_ (hR.out.seq (by simp; omega)))
      go_wp2_with fail
      go_ret
      exact ⟨rfl, hK.out⟩
set_option maxHeartbeats 1000000 in
theorem oddc_any (s : ByteArray) (w : World) : Calls Tryd.prog 71 (#[.string s] ++ #[]) w fun e w' => e = .returned (.bool (oddC s)) ∧ Keeps w w' := by
  by_cases h : s.size = 32
  · have hb : oddC s = false := by unfold oddC; simp [h]
    have g1 : (s.size : Int) = 32 := by omega
    rw [hb]
    clear h hb
    go_enter Tryd.func71, Tryd.ntmps71
    go_wp2
    go_ret
    exact ⟨by first | rfl | (simp [g1]; done) | (simp; exact g1), keeps_refl _⟩
  · have hb : oddC s = true := by unfold oddC; simp [h]
    have g1 : ¬ (s.size : Int) = 32 := by omega
    rw [hb]
    clear h hb
    go_enter Tryd.func71, Tryd.ntmps71
    go_wp2
    go_ret
    exact ⟨by first | rfl | (simp [g1]; done) | (simp; exact g1), keeps_refl _⟩
theorem enters_bodyE {f : FuncId} {fn : Func} {c : Code} (hf : Tryd.prog.funcs[f]? = some fn) (hname : (fn.name == "runtime.NumGoroutine") = false) (hb : fn.body = some c) (xs : Array Value) (w : World) :
    (callFunc f xs).run Tryd.prog w = .ok (.enter f xs) w := by
  have h1 : fn.name ≠ "runtime.NumGoroutine" := by simpa using hname
  simp [callFunc, hf, h1, hb, mark]
theorem enters_oddc (xs : Array Value) (w : World) : (callFunc 71 xs).run Tryd.prog w = .ok (.enter 71 xs) w := enters_bodyE Tryd.func71 (by kernel_rfl) rfl xs w
theorem hasodd_any (v : Value) (l : List ByteArray) (w : World) (h : SeqAt IsText w.heap v l) : Calls Tryd.prog 70 #[v, .func (.func 71) #[] #[]] w fun e w' => e = .returned (.bool (l.any oddC)) ∧ Keeps w w' :=
  containsT_any v l 71 #[] oddC w h enters_oddc fun wx _ s _ => oddc_any s wx
end Go.Proofs.YtdpfanifagfciaaDoor
