/- The walk of the reference's Tree. Printed by gentreer.py. -/
import Derived.Test.YtdpfanifagfciaaDoorTreeS
namespace Go.Proofs.YtdpfanifagfciaaDoor
open Go.RowKit
open Op (bytesLess)
attribute [local go_sem ↓] Go.wp_at_zero Go.wp_at_succ
theorem okR_walk (l : List FileR) (k : Nat) : okR l k = ((mayPath (fAt l k).p.data.toList && (decide (k = 0) || lessT (fAt l (k - 1)).p (fAt l k).p) && decide ((fAt l k).t.size ≤ 16384) && !((fAt l k).d && decide ((fAt l k).t.size ≠ 0))) && (!upIs (fAt l k).p || dirIn l (upT (fAt l k).p))) := by
  unfold okR lessT FileR.P
  rw [toList_eq, toList_eq]
def rtrA (b1 o1 n q k kp : Nat) (P Pp T : ByteArray) : Nat → Value → Prop
  | i, v => v = ([.slice (some ⟨b1, o1, none⟩) n q, .int .i64 (k : Int), .pointer (some ⟨b1, o1 + k * 3, none⟩), .pointer (some ⟨b1, o1 + k * 3, none⟩), .string P, .bool false, .bool true, .bool true, undef, undef, undef, undef, undef, undef, undef, undef, undef, undef, undef, undef, undef, undef, undef, undef, .bool true, .bool true, undef, undef, undef, undef, undef, undef, undef, .bool true, .bool true, undef, undef, undef, undef, undef, undef, undef, undef, undef, undef, undef, undef, undef, .bool true] : List Value).getD i undef
def rtrZb (b1 o1 n q k kp : Nat) (P Pp T : ByteArray) : Nat → Value → Prop
  | i, v => v = ([.slice (some ⟨b1, o1, none⟩) n q, .int .i64 (k : Int), .pointer (some ⟨b1, o1 + k * 3, none⟩), .pointer (some ⟨b1, o1 + k * 3, none⟩), .string P, .bool true, .bool false, .bool false, .int .i64 (k : Int), .bool false, .bool false, undef, undef, undef, undef, undef, undef, undef, undef, undef, undef, undef, undef, .bool false, .bool false, .bool false, .slice (some ⟨b1, o1, none⟩) n q, .int .i64 (k : Int), .pointer (some ⟨b1, o1 + k * 3, none⟩), .pointer (some ⟨b1, o1 + k * 3 + 2, none⟩), .string T, .int .i64 (T.size : Int), .bool true, .bool true, .bool true, undef, undef, undef, undef, undef, undef, undef, undef, undef, undef, undef, undef, undef, .bool true] : List Value).getD i undef
def rtrZc (b1 o1 n q k kp : Nat) (P Pp T : ByteArray) : Nat → Value → Prop
  | i, v => v = ([.slice (some ⟨b1, o1, none⟩) n q, .int .i64 (k : Int), .pointer (some ⟨b1, o1 + k * 3, none⟩), .pointer (some ⟨b1, o1 + k * 3, none⟩), .string P, .bool true, .bool false, .bool false, .int .i64 (k : Int), .bool false, .bool false, undef, undef, undef, undef, undef, undef, undef, undef, undef, undef, undef, undef, .bool false, .bool false, .bool false, .slice (some ⟨b1, o1, none⟩) n q, .int .i64 (k : Int), .pointer (some ⟨b1, o1 + k * 3, none⟩), .pointer (some ⟨b1, o1 + k * 3 + 2, none⟩), .string T, .int .i64 (T.size : Int), .bool false, .bool false, .bool false, .slice (some ⟨b1, o1, none⟩) n q, .int .i64 (k : Int), .pointer (some ⟨b1, o1 + k * 3, none⟩), .pointer (some ⟨b1, o1 + k * 3 + 1, none⟩), .bool false, .bool false, undef, undef, undef, undef, undef, undef, .bool false, .bool false] : List Value).getD i undef
def rtrZd (b1 o1 n q k kp : Nat) (P Pp T : ByteArray) : Nat → Value → Prop
  | i, v => v = ([.slice (some ⟨b1, o1, none⟩) n q, .int .i64 (k : Int), .pointer (some ⟨b1, o1 + k * 3, none⟩), .pointer (some ⟨b1, o1 + k * 3, none⟩), .string P, .bool true, .bool false, .bool false, .int .i64 (k : Int), .bool false, .bool false, undef, undef, undef, undef, undef, undef, undef, undef, undef, undef, undef, undef, .bool false, .bool false, .bool false, .slice (some ⟨b1, o1, none⟩) n q, .int .i64 (k : Int), .pointer (some ⟨b1, o1 + k * 3, none⟩), .pointer (some ⟨b1, o1 + k * 3 + 2, none⟩), .string T, .int .i64 (T.size : Int), .bool false, .bool false, .bool false, .slice (some ⟨b1, o1, none⟩) n q, .int .i64 (k : Int), .pointer (some ⟨b1, o1 + k * 3, none⟩), .pointer (some ⟨b1, o1 + k * 3 + 1, none⟩), .bool true, .bool true, .slice (some ⟨b1, o1, none⟩) n q, .int .i64 (k : Int), .pointer (some ⟨b1, o1 + k * 3, none⟩), .pointer (some ⟨b1, o1 + k * 3 + 2, none⟩), .string T, .bool false, .bool false, .bool false] : List Value).getD i undef
def rtrZe (b1 o1 n q k kp : Nat) (P Pp T : ByteArray) : Nat → Value → Prop
  | i, v => v = ([.slice (some ⟨b1, o1, none⟩) n q, .int .i64 (k : Int), .pointer (some ⟨b1, o1 + k * 3, none⟩), .pointer (some ⟨b1, o1 + k * 3, none⟩), .string P, .bool true, .bool false, .bool false, .int .i64 (k : Int), .bool false, .bool false, undef, undef, undef, undef, undef, undef, undef, undef, undef, undef, undef, undef, .bool false, .bool false, .bool false, .slice (some ⟨b1, o1, none⟩) n q, .int .i64 (k : Int), .pointer (some ⟨b1, o1 + k * 3, none⟩), .pointer (some ⟨b1, o1 + k * 3 + 2, none⟩), .string T, .int .i64 (T.size : Int), .bool false, .bool false, .bool false, .slice (some ⟨b1, o1, none⟩) n q, .int .i64 (k : Int), .pointer (some ⟨b1, o1 + k * 3, none⟩), .pointer (some ⟨b1, o1 + k * 3 + 1, none⟩), .bool true, .bool true, .slice (some ⟨b1, o1, none⟩) n q, .int .i64 (k : Int), .pointer (some ⟨b1, o1 + k * 3, none⟩), .pointer (some ⟨b1, o1 + k * 3 + 2, none⟩), .string T, .bool true, .bool true, .bool true] : List Value).getD i undef
def rtrB (b1 o1 n q k kp : Nat) (P Pp T : ByteArray) : Nat → Value → Prop
  | i, v => v = ([.slice (some ⟨b1, o1, none⟩) n q, .int .i64 (k : Int), .pointer (some ⟨b1, o1 + k * 3, none⟩), .pointer (some ⟨b1, o1 + k * 3, none⟩), .string P, .bool true, .bool false, .bool false, .int .i64 (k : Int), .bool true, .bool true, .slice (some ⟨b1, o1, none⟩) n q, .int .i64 (k : Int), .pointer (some ⟨b1, o1 + k * 3, none⟩), .pointer (some ⟨b1, o1 + k * 3, none⟩), .string P, .slice (some ⟨b1, o1, none⟩) n q, .int .i64 (k : Int), .int .i64 (kp : Int), .pointer (some ⟨b1, o1 + kp * 3, none⟩), .pointer (some ⟨b1, o1 + kp * 3, none⟩), .string Pp, .bool true, .bool true, .bool true, .bool true, undef, undef, undef, undef, undef, undef, undef, .bool true, .bool true, undef, undef, undef, undef, undef, undef, undef, undef, undef, undef, undef, undef, undef, .bool true] : List Value).getD i undef
def rtrYb (b1 o1 n q k kp : Nat) (P Pp T : ByteArray) : Nat → Value → Prop
  | i, v => v = ([.slice (some ⟨b1, o1, none⟩) n q, .int .i64 (k : Int), .pointer (some ⟨b1, o1 + k * 3, none⟩), .pointer (some ⟨b1, o1 + k * 3, none⟩), .string P, .bool true, .bool false, .bool false, .int .i64 (k : Int), .bool true, .bool true, .slice (some ⟨b1, o1, none⟩) n q, .int .i64 (k : Int), .pointer (some ⟨b1, o1 + k * 3, none⟩), .pointer (some ⟨b1, o1 + k * 3, none⟩), .string P, .slice (some ⟨b1, o1, none⟩) n q, .int .i64 (k : Int), .int .i64 (kp : Int), .pointer (some ⟨b1, o1 + kp * 3, none⟩), .pointer (some ⟨b1, o1 + kp * 3, none⟩), .string Pp, .bool false, .bool false, .bool false, .bool false, .slice (some ⟨b1, o1, none⟩) n q, .int .i64 (k : Int), .pointer (some ⟨b1, o1 + k * 3, none⟩), .pointer (some ⟨b1, o1 + k * 3 + 2, none⟩), .string T, .int .i64 (T.size : Int), .bool true, .bool true, .bool true, undef, undef, undef, undef, undef, undef, undef, undef, undef, undef, undef, undef, undef, .bool true] : List Value).getD i undef
def rtrYc (b1 o1 n q k kp : Nat) (P Pp T : ByteArray) : Nat → Value → Prop
  | i, v => v = ([.slice (some ⟨b1, o1, none⟩) n q, .int .i64 (k : Int), .pointer (some ⟨b1, o1 + k * 3, none⟩), .pointer (some ⟨b1, o1 + k * 3, none⟩), .string P, .bool true, .bool false, .bool false, .int .i64 (k : Int), .bool true, .bool true, .slice (some ⟨b1, o1, none⟩) n q, .int .i64 (k : Int), .pointer (some ⟨b1, o1 + k * 3, none⟩), .pointer (some ⟨b1, o1 + k * 3, none⟩), .string P, .slice (some ⟨b1, o1, none⟩) n q, .int .i64 (k : Int), .int .i64 (kp : Int), .pointer (some ⟨b1, o1 + kp * 3, none⟩), .pointer (some ⟨b1, o1 + kp * 3, none⟩), .string Pp, .bool false, .bool false, .bool false, .bool false, .slice (some ⟨b1, o1, none⟩) n q, .int .i64 (k : Int), .pointer (some ⟨b1, o1 + k * 3, none⟩), .pointer (some ⟨b1, o1 + k * 3 + 2, none⟩), .string T, .int .i64 (T.size : Int), .bool false, .bool false, .bool false, .slice (some ⟨b1, o1, none⟩) n q, .int .i64 (k : Int), .pointer (some ⟨b1, o1 + k * 3, none⟩), .pointer (some ⟨b1, o1 + k * 3 + 1, none⟩), .bool false, .bool false, undef, undef, undef, undef, undef, undef, .bool false, .bool false] : List Value).getD i undef
def rtrYd (b1 o1 n q k kp : Nat) (P Pp T : ByteArray) : Nat → Value → Prop
  | i, v => v = ([.slice (some ⟨b1, o1, none⟩) n q, .int .i64 (k : Int), .pointer (some ⟨b1, o1 + k * 3, none⟩), .pointer (some ⟨b1, o1 + k * 3, none⟩), .string P, .bool true, .bool false, .bool false, .int .i64 (k : Int), .bool true, .bool true, .slice (some ⟨b1, o1, none⟩) n q, .int .i64 (k : Int), .pointer (some ⟨b1, o1 + k * 3, none⟩), .pointer (some ⟨b1, o1 + k * 3, none⟩), .string P, .slice (some ⟨b1, o1, none⟩) n q, .int .i64 (k : Int), .int .i64 (kp : Int), .pointer (some ⟨b1, o1 + kp * 3, none⟩), .pointer (some ⟨b1, o1 + kp * 3, none⟩), .string Pp, .bool false, .bool false, .bool false, .bool false, .slice (some ⟨b1, o1, none⟩) n q, .int .i64 (k : Int), .pointer (some ⟨b1, o1 + k * 3, none⟩), .pointer (some ⟨b1, o1 + k * 3 + 2, none⟩), .string T, .int .i64 (T.size : Int), .bool false, .bool false, .bool false, .slice (some ⟨b1, o1, none⟩) n q, .int .i64 (k : Int), .pointer (some ⟨b1, o1 + k * 3, none⟩), .pointer (some ⟨b1, o1 + k * 3 + 1, none⟩), .bool true, .bool true, .slice (some ⟨b1, o1, none⟩) n q, .int .i64 (k : Int), .pointer (some ⟨b1, o1 + k * 3, none⟩), .pointer (some ⟨b1, o1 + k * 3 + 2, none⟩), .string T, .bool false, .bool false, .bool false] : List Value).getD i undef
def rtrYe (b1 o1 n q k kp : Nat) (P Pp T : ByteArray) : Nat → Value → Prop
  | i, v => v = ([.slice (some ⟨b1, o1, none⟩) n q, .int .i64 (k : Int), .pointer (some ⟨b1, o1 + k * 3, none⟩), .pointer (some ⟨b1, o1 + k * 3, none⟩), .string P, .bool true, .bool false, .bool false, .int .i64 (k : Int), .bool true, .bool true, .slice (some ⟨b1, o1, none⟩) n q, .int .i64 (k : Int), .pointer (some ⟨b1, o1 + k * 3, none⟩), .pointer (some ⟨b1, o1 + k * 3, none⟩), .string P, .slice (some ⟨b1, o1, none⟩) n q, .int .i64 (k : Int), .int .i64 (kp : Int), .pointer (some ⟨b1, o1 + kp * 3, none⟩), .pointer (some ⟨b1, o1 + kp * 3, none⟩), .string Pp, .bool false, .bool false, .bool false, .bool false, .slice (some ⟨b1, o1, none⟩) n q, .int .i64 (k : Int), .pointer (some ⟨b1, o1 + k * 3, none⟩), .pointer (some ⟨b1, o1 + k * 3 + 2, none⟩), .string T, .int .i64 (T.size : Int), .bool false, .bool false, .bool false, .slice (some ⟨b1, o1, none⟩) n q, .int .i64 (k : Int), .pointer (some ⟨b1, o1 + k * 3, none⟩), .pointer (some ⟨b1, o1 + k * 3 + 1, none⟩), .bool true, .bool true, .slice (some ⟨b1, o1, none⟩) n q, .int .i64 (k : Int), .pointer (some ⟨b1, o1 + k * 3, none⟩), .pointer (some ⟨b1, o1 + k * 3 + 2, none⟩), .string T, .bool true, .bool true, .bool true] : List Value).getD i undef
set_option maxRecDepth 100000 in
set_option maxHeartbeats 8000000 in
theorem rtree_any (v : Value) (l : List FileR) (w : World) (h : FilesAt w.heap v l) (hs : SmallF l) : Calls Tryd.prog 39 #[v] w fun e w' => e = .returned (.bool (treeR l)) ∧ Keeps w w' := by
  obtain ⟨p, q, rfl⟩ := rec_shape h
  by_cases hl : 256 < l.length
  · have HT : Hid (treeR l = false) := by show _ = _; unfold treeR; rw [decide_eq_false (by omega)]; rfl
    have h64 : (256 : Int) < (l.length : Int) := by omega
    rw [HT.out]
    clear h hs HT
    go_enter Tryd.func39, Tryd.ntmps39
    go_wp2_with fail
    go_ret
    exact ⟨rfl, keeps_refl _⟩
  have H := Lib.hid h
  have HS := Lib.hid hs
  clear h hs
  have h64 : decide ((256 : Int) < (l.length : Int)) = false := decide_eq_false (by omega)
  go_enter Tryd.func39, Tryd.ntmps39
  go_wp2_with fail
  generalize decide ((256 : Int) < (l.length : Int)) = bb at *
  clear h64
  go_loopw [3] (fun i wr => ∃ k : Nat, k ≤ l.length ∧ i = .int .i64 k ∧ Hid (∀ j, j < k → okR l j = true) ∧ Hid (Keeps w wr)) (fun i _ => l.length - (intOf i).toNat)
  case atStart => exact ⟨0, by omega, rfl, fun j h => absurd h (by omega), keeps_refl _⟩
  case round =>
    obtain ⟨k, hk, rfl, hN, hK⟩ := hrel
    by_cases hlt : k < l.length
    · have hlt64 : (k : Int) < (l.length : Int) := by omega
      have HA : Hid ((0 : Int) ≤ (k : Int) ∧ (k : Int) < (l.length : Int)) := ⟨by omega, by omega⟩
      obtain ⟨b1, o1, rfl, _, a0, a1, a2⟩ := file_cell (RecAt.keeps H.out hK.out) hlt
      obtain ⟨b2, o2, e2, _, c0, _, _⟩ := file_cell (RecAt.keeps H.out hK.out) (i := k - 1) (by omega)
      injection e2 with e2
      injection e2 with e21 e22 _
      subst e21 e22
      have HN2 : Hid (okR l k = true → ∀ j, j < k + 1 → okR l j = true) := fun e j hj => by
        by_cases e2 : j = k
        · subst e2; exact e
        · exact hN.out j (by omega)
      have HF : Hid (okR l k = false → treeR l = false) := fun e => by
        unfold treeR
        rw [Bool.and_eq_false_iff]
        right
        rw [List.all_eq_false]
        exact ⟨k, List.mem_range.2 hlt, by rw [e]; simp⟩
      have HPS := Lib.hid (HS.out k hlt).1
      have HAB := Lib.hid (fun wx => rabove_any (fAt l k).p wx (by have := HPS.out; omega))
      have HMY := Lib.hid (fun wx => rmay_any (fAt l k).p wx (by have := HPS.out; omega))
      have HWK := Lib.hid (okR_walk l k)
      have HLE := Lib.hid (leT_is (fAt l k).p (fAt l (k - 1)).p)
      generalize hkp : k - 1 = kp at *
      have HW : Hid ((k = 0 ∨ IntKind.i64.wrap ((k : Int) - 1) = (kp : Int)) ∧ (k = 0 ∨ (k : Int) - 1 = (kp : Int))) := by
        subst hkp
        constructor
        · by_cases e : k = 0
          · exact .inl e
          · exact .inr (by rw [IntWalk.i64_in _ (by omega)]; omega)
        · omega
      have HB : Hid ((0 : Int) ≤ (kp : Int) ∧ (kp : Int) < (l.length : Int)) := ⟨by omega, by omega⟩
      clear hkp
      generalize upIs (fAt l k).p = I at *
      generalize upT (fAt l k).p = U at *
      generalize mayPath (fAt l k).p.data.toList = my at *
      generalize lessT (fAt l kp).p (fAt l k).p = ls at *
      generalize (fAt l k).p = P at *
      generalize (fAt l k).d = D at *
      generalize (fAt l k).t = T at *
      generalize (fAt l kp).p = Pp at *
      have P0 := Lib.hid a0
      have D1 := Lib.hid a1
      have T2 := Lib.hid a2
      have Q0 := Lib.hid c0
      clear a0 a1 a2 c0 HPS
      generalize l.length = n at *
      cases my with
      | false =>
        have HT2 := Lib.hid (HF.out (by rw [HWK.out]; rfl))
        go_wp2_with fail
        refine wp_region_stage [15, 16, 17, 18, 19, 20, 21, 22, 23, 24, 25, 26, 27, 28, 29, 30, 31, 32, 33, 34, 35, 36, 37, 38, 39, 40, 41, 42, 43, 44, 45, 46, 47, 48, 49, 50, 51, 52, 53, 54, 55, 56, 57, 58, 59, 60, 61, 62, 63] [[], [], [0, 1], [2], [3], [4], [5], [6], [7], [7], [7], [10], [10], [10], [10], [10], [10], [10], [10], [10], [10], [10], [10], [7], [7, 23], [24], [25], [25], [25], [25], [25], [25], [25], [25, 32], [33], [34], [34], [34], [34], [34], [34], [40], [40], [40], [40], [40], [40], [34], [34, 47]] [] [0, 0, 0, 0, 0, 0, 0, 0, 0, 0, 0, 0, 0, 0, 0, 0, 0, 0, 0, 0, 0, 0, 0, 0, 0, 0, 0, 0, 0, 0, 0, 0, 0, 0, 0, 0, 0, 0, 0, 0, 0, 0, 0, 0, 0, 0, 0, 0, 0] [8, 9, 10, 11, 12, 13, 14, 15, 16, 17, 18, 19, 20, 21, 22, 23, 26, 27, 28, 29, 30, 31, 32, 35, 36, 37, 38, 39, 40, 41, 42, 43, 44, 45, 46, 47] (fun i v _ => rtrA b1 o1 n q k kp P Pp T i v) (fun w w' => Keeps w w') (fun _ _ w' => Keeps wr w') (by kernel_rfl) (by kernel_rfl) (by kernel_rfl) (by kernel_rfl) (by kernel_rfl) (by kernel_rfl) (by kernel_rfl) ?_ ?_ ?_ ?_ ?_ ?_ ?_
        · exact fun i v w w' c h => h
        · exact fun w => keeps_refl w
        · exact fun i s vs w _ h => h
        · refine ⟨?_, ?_, ?_, ?_, ?_, ?_, ?_, ?_, ?_, ?_, ?_, ?_, ?_, ?_, ?_, ?_, ?_, ?_, ?_, ?_, ?_, ?_, ?_, ?_, ?_, ?_, ?_, ?_, ?_, ?_, ?_, ?_, ?_, ?_, ?_, ?_, ?_, ?_, ?_, ?_, ?_, ?_, ?_, ?_, ?_, ?_, ?_, ?_, ?_, trivial⟩
          · exact fun g b h => by (cases h)
          · exact fun g b h => by (cases h)
          · exact fun g b h => by (cases h)
          · exact fun g b h => by (cases h)
          · exact fun g b h => by (cases h)
          · exact fun g b h => by (cases h)
          · exact fun g b h => by (cases h)
          · exact fun g b h => by (cases h)
          · exact ⟨⟨_, _, rfl, by decide, fun v w h => by (first | (change v = _ at h; subst h; intro x; cases x) | skip)⟩, fun w => rfl⟩
          · exact ⟨⟨_, _, rfl, by decide, fun v w h => by (first | (change v = _ at h; subst h; intro x; cases x) | skip)⟩, fun w => rfl⟩
          · exact ⟨⟨_, _, rfl, by decide, fun v w h => by (first | (change v = _ at h; subst h; intro x; cases x) | skip)⟩, fun w => rfl⟩
          · exact ⟨⟨_, _, rfl, by decide, fun v w h => by (first | (change v = _ at h; subst h; intro x; cases x) | skip)⟩, fun w => rfl⟩
          · exact ⟨⟨_, _, rfl, by decide, fun v w h => by (first | (change v = _ at h; subst h; intro x; cases x) | skip)⟩, fun w => rfl⟩
          · exact ⟨⟨_, _, rfl, by decide, fun v w h => by (first | (change v = _ at h; subst h; intro x; cases x) | skip)⟩, fun w => rfl⟩
          · exact ⟨⟨_, _, rfl, by decide, fun v w h => by (first | (change v = _ at h; subst h; intro x; cases x) | skip)⟩, fun w => rfl⟩
          · exact ⟨⟨_, _, rfl, by decide, fun v w h => by (first | (change v = _ at h; subst h; intro x; cases x) | skip)⟩, fun w => rfl⟩
          · exact ⟨⟨_, _, rfl, by decide, fun v w h => by (first | (change v = _ at h; subst h; intro x; cases x) | skip)⟩, fun w => rfl⟩
          · exact ⟨⟨_, _, rfl, by decide, fun v w h => by (first | (change v = _ at h; subst h; intro x; cases x) | skip)⟩, fun w => rfl⟩
          · exact ⟨⟨_, _, rfl, by decide, fun v w h => by (first | (change v = _ at h; subst h; intro x; cases x) | skip)⟩, fun w => rfl⟩
          · exact ⟨⟨_, _, rfl, by decide, fun v w h => by (first | (change v = _ at h; subst h; intro x; cases x) | skip)⟩, fun w => rfl⟩
          · exact ⟨⟨_, _, rfl, by decide, fun v w h => by (first | (change v = _ at h; subst h; intro x; cases x) | skip)⟩, fun w => rfl⟩
          · exact ⟨⟨_, _, rfl, by decide, fun v w h => by (first | (change v = _ at h; subst h; intro x; cases x) | skip)⟩, fun w => rfl⟩
          · exact ⟨⟨_, _, rfl, by decide, fun v w h => by (first | (change v = _ at h; subst h; intro x; cases x) | skip)⟩, fun w => rfl⟩
          · exact ⟨⟨_, _, rfl, by decide, fun v w h => by (first | (change v = _ at h; subst h; intro x; cases x) | skip)⟩, fun w => rfl⟩
          · exact fun g b h => by (cases h)
          · exact fun g b h => by (cases h)
          · exact ⟨⟨_, _, rfl, by decide, fun v w h => by (first | (change v = _ at h; subst h; intro x; cases x) | skip)⟩, fun w => rfl⟩
          · exact ⟨⟨_, _, rfl, by decide, fun v w h => by (first | (change v = _ at h; subst h; intro x; cases x) | skip)⟩, fun w => rfl⟩
          · exact ⟨⟨_, _, rfl, by decide, fun v w h => by (first | (change v = _ at h; subst h; intro x; cases x) | skip)⟩, fun w => rfl⟩
          · exact ⟨⟨_, _, rfl, by decide, fun v w h => by (first | (change v = _ at h; subst h; intro x; cases x) | skip)⟩, fun w => rfl⟩
          · exact ⟨⟨_, _, rfl, by decide, fun v w h => by (first | (change v = _ at h; subst h; intro x; cases x) | skip)⟩, fun w => rfl⟩
          · exact ⟨⟨_, _, rfl, by decide, fun v w h => by (first | (change v = _ at h; subst h; intro x; cases x) | skip)⟩, fun w => rfl⟩
          · exact ⟨⟨_, _, rfl, by decide, fun v w h => by (first | (change v = _ at h; subst h; intro x; cases x) | skip)⟩, fun w => rfl⟩
          · exact fun g b h => by (cases h)
          · exact fun g b h => by (cases h)
          · exact ⟨⟨_, _, rfl, by decide, fun v w h => by (first | (change v = _ at h; subst h; intro x; cases x) | skip)⟩, fun w => rfl⟩
          · exact ⟨⟨_, _, rfl, by decide, fun v w h => by (first | (change v = _ at h; subst h; intro x; cases x) | skip)⟩, fun w => rfl⟩
          · exact ⟨⟨_, _, rfl, by decide, fun v w h => by (first | (change v = _ at h; subst h; intro x; cases x) | skip)⟩, fun w => rfl⟩
          · exact ⟨⟨_, _, rfl, by decide, fun v w h => by (first | (change v = _ at h; subst h; intro x; cases x) | skip)⟩, fun w => rfl⟩
          · exact ⟨⟨_, _, rfl, by decide, fun v w h => by (first | (change v = _ at h; subst h; intro x; cases x) | skip)⟩, fun w => rfl⟩
          · exact ⟨⟨_, _, rfl, by decide, fun v w h => by (first | (change v = _ at h; subst h; intro x; cases x) | skip)⟩, fun w => rfl⟩
          · exact ⟨⟨_, _, rfl, by decide, fun v w h => by (first | (change v = _ at h; subst h; intro x; cases x) | skip)⟩, fun w => rfl⟩
          · exact ⟨⟨_, _, rfl, by decide, fun v w h => by (first | (change v = _ at h; subst h; intro x; cases x) | skip)⟩, fun w => rfl⟩
          · exact ⟨⟨_, _, rfl, by decide, fun v w h => by (first | (change v = _ at h; subst h; intro x; cases x) | skip)⟩, fun w => rfl⟩
          · exact ⟨⟨_, _, rfl, by decide, fun v w h => by (first | (change v = _ at h; subst h; intro x; cases x) | skip)⟩, fun w => rfl⟩
          · exact ⟨⟨_, _, rfl, by decide, fun v w h => by (first | (change v = _ at h; subst h; intro x; cases x) | skip)⟩, fun w => rfl⟩
          · exact ⟨⟨_, _, rfl, by decide, fun v w h => by (first | (change v = _ at h; subst h; intro x; cases x) | skip)⟩, fun w => rfl⟩
          · exact ⟨⟨_, _, rfl, by decide, fun v w h => by (first | (change v = _ at h; subst h; intro x; cases x) | skip)⟩, fun w => rfl⟩
          · exact fun g b h => by (cases h)
        · exact fun _ _ => keeps_refl wr
        · refine ⟨?_, ?_, ?_, ?_, ?_, ?_, ?_, ?_, ?_, ?_, ?_, ?_, ?_, ?_, ?_, ?_, ?_, ?_, ?_, ?_, ?_, ?_, ?_, ?_, ?_, ?_, ?_, ?_, ?_, ?_, ?_, ?_, ?_, ?_, ?_, ?_, ?_, ?_, ?_, ?_, ?_, ?_, ?_, ?_, ?_, ?_, ?_, ?_, ?_, trivial⟩
          · intro _ a w1 vs hI ho hn hu K hK
            have e0 : a.tmps[0]? = some (.slice (some ⟨b1, o1, none⟩) n q) := ho 0 rfl
            clear hn ho hu
            go_simp
            exact hK _ _ (keeps_refl _) hI rfl
          · intro _ a w1 vs hI ho hn hu K hK
            have e3 : a.tmps[3]? = some (.int .i64 (k : Int)) := ho 3 rfl
            clear hn ho hu
            go_simp
            exact hK _ _ (keeps_refl _) hI rfl
          · intro _ a w1 vs hI ho hn hu K hK
            obtain ⟨e15, g15⟩ : a.tmps[15]? = some (vs 0) ∧ vs 0 = .slice (some ⟨b1, o1, none⟩) n q := hn 0 (by decide)
            rw [g15] at e15
            clear g15
            obtain ⟨e16, g16⟩ : a.tmps[16]? = some (vs 1) ∧ vs 1 = .int .i64 (k : Int) := hn 1 (by decide)
            rw [g16] at e16
            clear g16
            clear hn ho hu
            have i1 := HA.out.1
            have i2 := HA.out.2
            go_simp
            exact hK _ _ (keeps_refl _) hI rfl
          · intro _ a w1 vs hI ho hn hu K hK
            obtain ⟨e17, g17⟩ : a.tmps[17]? = some (vs 2) ∧ vs 2 = .pointer (some ⟨b1, o1 + k * 3, none⟩) := hn 2 (by decide)
            rw [g17] at e17
            clear g17
            clear hn ho hu
            go_simp
            exact hK _ _ (keeps_refl _) hI rfl
          · intro _ a w1 vs hI ho hn hu K hK
            obtain ⟨e18, g18⟩ : a.tmps[18]? = some (vs 3) ∧ vs 3 = .pointer (some ⟨b1, o1 + k * 3, none⟩) := hn 3 (by decide)
            rw [g18] at e18
            clear g18
            clear hn ho hu
            have c0 := keeps_cell hI P0.out
            go_simp
            exact hK _ _ (keeps_refl _) hI rfl
          · intro _ a w1 vs hI ho hn hu K hK
            obtain ⟨e19, g19⟩ : a.tmps[19]? = some (vs 4) ∧ vs 4 = .string P := hn 4 (by decide)
            rw [g19] at e19
            clear g19
            clear hn ho hu
            go_simp
            refine Calls.mono (HMY.out _) ?_
            rintro e w' ⟨rfl, hk2⟩
            go_simp
            exact hK _ _ hk2 (Keeps.trans hI hk2) rfl
          · intro _ a w1 vs hI ho hn hu K hK
            obtain ⟨e20, g20⟩ : a.tmps[20]? = some (vs 5) ∧ vs 5 = .bool false := hn 5 (by decide)
            rw [g20] at e20
            clear g20
            clear hn ho hu
            go_simp
            exact hK _ _ (keeps_refl _) hI rfl
          · intro _ a w1 vs hI ho hn hu K hK
            obtain ⟨e21, g21⟩ : a.tmps[21]? = some (vs 6) ∧ vs 6 = .bool true := hn 6 (by decide)
            rw [g21] at e21
            clear g21
            clear hn ho hu
            go_simp
            exact hK _ _ (keeps_refl _) hI rfl
          · intro hs; cases hs
          · intro hs; cases hs
          · intro hs; cases hs
          · intro hs; cases hs
          · intro hs; cases hs
          · intro hs; cases hs
          · intro hs; cases hs
          · intro hs; cases hs
          · intro hs; cases hs
          · intro hs; cases hs
          · intro hs; cases hs
          · intro hs; cases hs
          · intro hs; cases hs
          · intro hs; cases hs
          · intro hs; cases hs
          · intro hs; cases hs
          · intro _ a w1 vs hI ho hn hu K hK
            obtain ⟨e22, g22⟩ : a.tmps[22]? = some (vs 7) ∧ vs 7 = .bool true := hn 7 (by decide)
            rw [g22] at e22
            clear g22
            obtain ⟨e38, g38⟩ : a.tmps[38]? = some (vs 23) ∧ vs 23 = undef := hn 23 (by decide)
            rw [g38] at e38
            clear g38
            clear hn ho hu
            go_simp
            exact hK _ _ (keeps_refl _) hI rfl
          · intro _ a w1 vs hI ho hn hu K hK
            obtain ⟨e39, g39⟩ : a.tmps[39]? = some (vs 24) ∧ vs 24 = .bool true := hn 24 (by decide)
            rw [g39] at e39
            clear g39
            clear hn ho hu
            go_simp
            exact hK _ _ (keeps_refl _) hI rfl
          · intro hs; cases hs
          · intro hs; cases hs
          · intro hs; cases hs
          · intro hs; cases hs
          · intro hs; cases hs
          · intro hs; cases hs
          · intro hs; cases hs
          · intro _ a w1 vs hI ho hn hu K hK
            obtain ⟨e40, g40⟩ : a.tmps[40]? = some (vs 25) ∧ vs 25 = .bool true := hn 25 (by decide)
            rw [g40] at e40
            clear g40
            obtain ⟨e47, g47⟩ : a.tmps[47]? = some (vs 32) ∧ vs 32 = undef := hn 32 (by decide)
            rw [g47] at e47
            clear g47
            clear hn ho hu
            go_simp
            exact hK _ _ (keeps_refl _) hI rfl
          · intro _ a w1 vs hI ho hn hu K hK
            obtain ⟨e48, g48⟩ : a.tmps[48]? = some (vs 33) ∧ vs 33 = .bool true := hn 33 (by decide)
            rw [g48] at e48
            clear g48
            clear hn ho hu
            go_simp
            exact hK _ _ (keeps_refl _) hI rfl
          · intro hs; cases hs
          · intro hs; cases hs
          · intro hs; cases hs
          · intro hs; cases hs
          · intro hs; cases hs
          · intro hs; cases hs
          · intro hs; cases hs
          · intro hs; cases hs
          · intro hs; cases hs
          · intro hs; cases hs
          · intro hs; cases hs
          · intro hs; cases hs
          · intro hs; cases hs
          · intro _ a w1 vs hI ho hn hu K hK
            obtain ⟨e49, g49⟩ : a.tmps[49]? = some (vs 34) ∧ vs 34 = .bool true := hn 34 (by decide)
            rw [g49] at e49
            clear g49
            obtain ⟨e62, g62⟩ : a.tmps[62]? = some (vs 47) ∧ vs 47 = undef := hn 47 (by decide)
            rw [g62] at e62
            clear g62
            clear hn ho hu
            go_simp
            exact hK _ _ (keeps_refl _) hI rfl
        · intro vs wE hI hG
          have eL48 : vs 48 = .bool true := hG 48 (by decide)
          have HKE := Lib.hid hI
          clear hG hI
          simp only [setAll, Nat.zero_add, Nat.reduceAdd, List.setIfInBounds_toArray, List.set_cons_zero, List.set_cons_succ, eL48]
          clear eL48
          generalize vs 0 = y0 at *
          generalize vs 1 = y1 at *
          generalize vs 2 = y2 at *
          generalize vs 3 = y3 at *
          generalize vs 4 = y4 at *
          generalize vs 5 = y5 at *
          generalize vs 6 = y6 at *
          generalize vs 7 = y7 at *
          generalize vs 8 = y8 at *
          generalize vs 9 = y9 at *
          generalize vs 10 = y10 at *
          generalize vs 11 = y11 at *
          generalize vs 12 = y12 at *
          generalize vs 13 = y13 at *
          generalize vs 14 = y14 at *
          generalize vs 15 = y15 at *
          generalize vs 16 = y16 at *
          generalize vs 17 = y17 at *
          generalize vs 18 = y18 at *
          generalize vs 19 = y19 at *
          generalize vs 20 = y20 at *
          generalize vs 21 = y21 at *
          generalize vs 22 = y22 at *
          generalize vs 23 = y23 at *
          generalize vs 24 = y24 at *
          generalize vs 25 = y25 at *
          generalize vs 26 = y26 at *
          generalize vs 27 = y27 at *
          generalize vs 28 = y28 at *
          generalize vs 29 = y29 at *
          generalize vs 30 = y30 at *
          generalize vs 31 = y31 at *
          generalize vs 32 = y32 at *
          generalize vs 33 = y33 at *
          generalize vs 34 = y34 at *
          generalize vs 35 = y35 at *
          generalize vs 36 = y36 at *
          generalize vs 37 = y37 at *
          generalize vs 38 = y38 at *
          generalize vs 39 = y39 at *
          generalize vs 40 = y40 at *
          generalize vs 41 = y41 at *
          generalize vs 42 = y42 at *
          generalize vs 43 = y43 at *
          generalize vs 44 = y44 at *
          generalize vs 45 = y45 at *
          generalize vs 46 = y46 at *
          generalize vs 47 = y47 at *
          have HKW := Lib.hid (hK.out.trans HKE.out)
          clear HKE
          go_wp2_with fail
          go_ret
          exact ⟨by rw [HT2.out]; rfl, HKW.out⟩
      | true =>
        by_cases hk0 : k = 0
        · have HG : Hid (decide ((0 : Int) < (k : Int)) = false ∧ decide (0 < k) = false) := ⟨decide_eq_false (by omega), decide_eq_false (by omega)⟩
          have HK0 := Lib.hid hk0
          clear hk0
          by_cases hz : 16384 < T.size
          · have HBG : Hid (decide ((16384 : Int) < (T.size : Int)) = true) := decide_eq_true (by omega)
            have HT2 := Lib.hid (HF.out (by rw [HWK.out, decide_eq_false (p := T.size ≤ 16384) (by omega)]; simp))
            go_wp2_with fail
            refine wp_region_stage [15, 16, 17, 18, 19, 20, 21, 22, 23, 24, 25, 26, 27, 28, 29, 30, 31, 32, 33, 34, 35, 36, 37, 38, 39, 40, 41, 42, 43, 44, 45, 46, 47, 48, 49, 50, 51, 52, 53, 54, 55, 56, 57, 58, 59, 60, 61, 62, 63] [[], [], [0, 1], [2], [3], [4], [5], [6], [7], [7, 8], [7, 9], [10], [10], [10], [10], [10], [10], [10], [10], [10], [10], [10], [10], [7, 10, 22], [7, 23], [24], [25], [25], [25, 26, 27], [25, 28], [25, 29], [25, 30], [25, 31], [25, 32], [33], [34], [34], [34], [34], [34], [34], [40], [40], [40], [40], [40], [40], [34], [34, 47]] [] [0, 0, 0, 0, 0, 0, 0, 0, 0, 0, 0, 0, 0, 0, 0, 0, 0, 0, 0, 0, 0, 0, 0, 0, 0, 0, 0, 0, 0, 0, 0, 0, 0, 0, 0, 0, 0, 0, 0, 0, 0, 0, 0, 0, 0, 0, 0, 0, 0] [11, 12, 13, 14, 15, 16, 17, 18, 19, 20, 21, 22, 35, 36, 37, 38, 39, 40, 41, 42, 43, 44, 45, 46, 47] (fun i v _ => rtrZb b1 o1 n q k kp P Pp T i v) (fun w w' => Keeps w w') (fun _ _ w' => Keeps wr w') (by kernel_rfl) (by kernel_rfl) (by kernel_rfl) (by kernel_rfl) (by kernel_rfl) (by kernel_rfl) (by kernel_rfl) ?_ ?_ ?_ ?_ ?_ ?_ ?_
            · exact fun i v w w' c h => h
            · exact fun w => keeps_refl w
            · exact fun i s vs w _ h => h
            · refine ⟨?_, ?_, ?_, ?_, ?_, ?_, ?_, ?_, ?_, ?_, ?_, ?_, ?_, ?_, ?_, ?_, ?_, ?_, ?_, ?_, ?_, ?_, ?_, ?_, ?_, ?_, ?_, ?_, ?_, ?_, ?_, ?_, ?_, ?_, ?_, ?_, ?_, ?_, ?_, ?_, ?_, ?_, ?_, ?_, ?_, ?_, ?_, ?_, ?_, trivial⟩
              · exact fun g b h => by (cases h)
              · exact fun g b h => by (cases h)
              · exact fun g b h => by (cases h)
              · exact fun g b h => by (cases h)
              · exact fun g b h => by (cases h)
              · exact fun g b h => by (cases h)
              · exact fun g b h => by (cases h)
              · exact fun g b h => by (cases h)
              · exact fun g b h => by (cases h; exact ⟨by decide, fun v w h => h⟩)
              · exact fun g b h => by (cases h; exact ⟨by decide, fun v w h => h⟩)
              · exact fun g b h => by (cases h; exact ⟨by decide, fun v w h => h⟩)
              · exact ⟨⟨_, _, rfl, by decide, fun v w h => by (first | (change v = _ at h; subst h; intro x; cases x) | skip)⟩, fun w => rfl⟩
              · exact ⟨⟨_, _, rfl, by decide, fun v w h => by (first | (change v = _ at h; subst h; intro x; cases x) | skip)⟩, fun w => rfl⟩
              · exact ⟨⟨_, _, rfl, by decide, fun v w h => by (first | (change v = _ at h; subst h; intro x; cases x) | skip)⟩, fun w => rfl⟩
              · exact ⟨⟨_, _, rfl, by decide, fun v w h => by (first | (change v = _ at h; subst h; intro x; cases x) | skip)⟩, fun w => rfl⟩
              · exact ⟨⟨_, _, rfl, by decide, fun v w h => by (first | (change v = _ at h; subst h; intro x; cases x) | skip)⟩, fun w => rfl⟩
              · exact ⟨⟨_, _, rfl, by decide, fun v w h => by (first | (change v = _ at h; subst h; intro x; cases x) | skip)⟩, fun w => rfl⟩
              · exact ⟨⟨_, _, rfl, by decide, fun v w h => by (first | (change v = _ at h; subst h; intro x; cases x) | skip)⟩, fun w => rfl⟩
              · exact ⟨⟨_, _, rfl, by decide, fun v w h => by (first | (change v = _ at h; subst h; intro x; cases x) | skip)⟩, fun w => rfl⟩
              · exact ⟨⟨_, _, rfl, by decide, fun v w h => by (first | (change v = _ at h; subst h; intro x; cases x) | skip)⟩, fun w => rfl⟩
              · exact ⟨⟨_, _, rfl, by decide, fun v w h => by (first | (change v = _ at h; subst h; intro x; cases x) | skip)⟩, fun w => rfl⟩
              · exact ⟨⟨_, _, rfl, by decide, fun v w h => by (first | (change v = _ at h; subst h; intro x; cases x) | skip)⟩, fun w => rfl⟩
              · exact ⟨⟨_, _, rfl, by decide, fun v w h => by (first | (change v = _ at h; subst h; intro x; cases x) | skip)⟩, fun w => rfl⟩
              · exact fun g b h => by (cases h; exact ⟨by decide, fun v w h => h⟩)
              · exact fun g b h => by (cases h)
              · exact fun g b h => by (cases h)
              · exact fun g b h => by (cases h; exact ⟨by decide, fun v w h => h⟩)
              · exact fun g b h => by (cases h; exact ⟨by decide, fun v w h => h⟩)
              · exact fun g b h => by (cases h; exact ⟨by decide, fun v w h => h⟩)
              · exact fun g b h => by (cases h; exact ⟨by decide, fun v w h => h⟩)
              · exact fun g b h => by (cases h; exact ⟨by decide, fun v w h => h⟩)
              · exact fun g b h => by (cases h; exact ⟨by decide, fun v w h => h⟩)
              · exact fun g b h => by (cases h; exact ⟨by decide, fun v w h => h⟩)
              · exact fun g b h => by (cases h)
              · exact fun g b h => by (cases h)
              · exact ⟨⟨_, _, rfl, by decide, fun v w h => by (first | (change v = _ at h; subst h; intro x; cases x) | skip)⟩, fun w => rfl⟩
              · exact ⟨⟨_, _, rfl, by decide, fun v w h => by (first | (change v = _ at h; subst h; intro x; cases x) | skip)⟩, fun w => rfl⟩
              · exact ⟨⟨_, _, rfl, by decide, fun v w h => by (first | (change v = _ at h; subst h; intro x; cases x) | skip)⟩, fun w => rfl⟩
              · exact ⟨⟨_, _, rfl, by decide, fun v w h => by (first | (change v = _ at h; subst h; intro x; cases x) | skip)⟩, fun w => rfl⟩
              · exact ⟨⟨_, _, rfl, by decide, fun v w h => by (first | (change v = _ at h; subst h; intro x; cases x) | skip)⟩, fun w => rfl⟩
              · exact ⟨⟨_, _, rfl, by decide, fun v w h => by (first | (change v = _ at h; subst h; intro x; cases x) | skip)⟩, fun w => rfl⟩
              · exact ⟨⟨_, _, rfl, by decide, fun v w h => by (first | (change v = _ at h; subst h; intro x; cases x) | skip)⟩, fun w => rfl⟩
              · exact ⟨⟨_, _, rfl, by decide, fun v w h => by (first | (change v = _ at h; subst h; intro x; cases x) | skip)⟩, fun w => rfl⟩
              · exact ⟨⟨_, _, rfl, by decide, fun v w h => by (first | (change v = _ at h; subst h; intro x; cases x) | skip)⟩, fun w => rfl⟩
              · exact ⟨⟨_, _, rfl, by decide, fun v w h => by (first | (change v = _ at h; subst h; intro x; cases x) | skip)⟩, fun w => rfl⟩
              · exact ⟨⟨_, _, rfl, by decide, fun v w h => by (first | (change v = _ at h; subst h; intro x; cases x) | skip)⟩, fun w => rfl⟩
              · exact ⟨⟨_, _, rfl, by decide, fun v w h => by (first | (change v = _ at h; subst h; intro x; cases x) | skip)⟩, fun w => rfl⟩
              · exact ⟨⟨_, _, rfl, by decide, fun v w h => by (first | (change v = _ at h; subst h; intro x; cases x) | skip)⟩, fun w => rfl⟩
              · exact fun g b h => by (cases h)
            · exact fun _ _ => keeps_refl wr
            · refine ⟨?_, ?_, ?_, ?_, ?_, ?_, ?_, ?_, ?_, ?_, ?_, ?_, ?_, ?_, ?_, ?_, ?_, ?_, ?_, ?_, ?_, ?_, ?_, ?_, ?_, ?_, ?_, ?_, ?_, ?_, ?_, ?_, ?_, ?_, ?_, ?_, ?_, ?_, ?_, ?_, ?_, ?_, ?_, ?_, ?_, ?_, ?_, ?_, ?_, trivial⟩
              · intro _ a w1 vs hI ho hn hu K hK
                have e0 : a.tmps[0]? = some (.slice (some ⟨b1, o1, none⟩) n q) := ho 0 rfl
                clear hn ho hu
                go_simp
                exact hK _ _ (keeps_refl _) hI rfl
              · intro _ a w1 vs hI ho hn hu K hK
                have e3 : a.tmps[3]? = some (.int .i64 (k : Int)) := ho 3 rfl
                clear hn ho hu
                go_simp
                exact hK _ _ (keeps_refl _) hI rfl
              · intro _ a w1 vs hI ho hn hu K hK
                obtain ⟨e15, g15⟩ : a.tmps[15]? = some (vs 0) ∧ vs 0 = .slice (some ⟨b1, o1, none⟩) n q := hn 0 (by decide)
                rw [g15] at e15
                clear g15
                obtain ⟨e16, g16⟩ : a.tmps[16]? = some (vs 1) ∧ vs 1 = .int .i64 (k : Int) := hn 1 (by decide)
                rw [g16] at e16
                clear g16
                clear hn ho hu
                have i1 := HA.out.1
                have i2 := HA.out.2
                go_simp
                exact hK _ _ (keeps_refl _) hI rfl
              · intro _ a w1 vs hI ho hn hu K hK
                obtain ⟨e17, g17⟩ : a.tmps[17]? = some (vs 2) ∧ vs 2 = .pointer (some ⟨b1, o1 + k * 3, none⟩) := hn 2 (by decide)
                rw [g17] at e17
                clear g17
                clear hn ho hu
                go_simp
                exact hK _ _ (keeps_refl _) hI rfl
              · intro _ a w1 vs hI ho hn hu K hK
                obtain ⟨e18, g18⟩ : a.tmps[18]? = some (vs 3) ∧ vs 3 = .pointer (some ⟨b1, o1 + k * 3, none⟩) := hn 3 (by decide)
                rw [g18] at e18
                clear g18
                clear hn ho hu
                have c0 := keeps_cell hI P0.out
                go_simp
                exact hK _ _ (keeps_refl _) hI rfl
              · intro _ a w1 vs hI ho hn hu K hK
                obtain ⟨e19, g19⟩ : a.tmps[19]? = some (vs 4) ∧ vs 4 = .string P := hn 4 (by decide)
                rw [g19] at e19
                clear g19
                clear hn ho hu
                go_simp
                refine Calls.mono (HMY.out _) ?_
                rintro e w' ⟨rfl, hk2⟩
                go_simp
                exact hK _ _ hk2 (Keeps.trans hI hk2) rfl
              · intro _ a w1 vs hI ho hn hu K hK
                obtain ⟨e20, g20⟩ : a.tmps[20]? = some (vs 5) ∧ vs 5 = .bool true := hn 5 (by decide)
                rw [g20] at e20
                clear g20
                clear hn ho hu
                go_simp
                exact hK _ _ (keeps_refl _) hI rfl
              · intro _ a w1 vs hI ho hn hu K hK
                obtain ⟨e21, g21⟩ : a.tmps[21]? = some (vs 6) ∧ vs 6 = .bool false := hn 6 (by decide)
                rw [g21] at e21
                clear g21
                clear hn ho hu
                go_simp
                exact hK _ _ (keeps_refl _) hI rfl
              · intro _ a w1 vs hI ho hn hu K hK
                have e3 : a.tmps[3]? = some (.int .i64 (k : Int)) := ho 3 rfl
                clear hn ho hu
                go_simp
                exact hK _ _ (keeps_refl _) hI rfl
              · intro _ a w1 vs hI ho hn hu K hK
                obtain ⟨e23, g23⟩ : a.tmps[23]? = some (vs 8) ∧ vs 8 = .int .i64 (k : Int) := hn 8 (by decide)
                rw [g23] at e23
                clear g23
                clear hn ho hu
                have q1 := HG.out.1
                have q2 := HG.out.2
                go_simp
                exact hK _ _ (keeps_refl _) hI rfl
              · intro _ a w1 vs hI ho hn hu K hK
                obtain ⟨e24, g24⟩ : a.tmps[24]? = some (vs 9) ∧ vs 9 = .bool false := hn 9 (by decide)
                rw [g24] at e24
                clear g24
                clear hn ho hu
                go_simp
                exact hK _ _ (keeps_refl _) hI rfl
              · intro hs; cases hs
              · intro hs; cases hs
              · intro hs; cases hs
              · intro hs; cases hs
              · intro hs; cases hs
              · intro hs; cases hs
              · intro hs; cases hs
              · intro hs; cases hs
              · intro hs; cases hs
              · intro hs; cases hs
              · intro hs; cases hs
              · intro hs; cases hs
              · intro _ a w1 vs hI ho hn hu K hK
                obtain ⟨e25, g25⟩ : a.tmps[25]? = some (vs 10) ∧ vs 10 = .bool false := hn 10 (by decide)
                rw [g25] at e25
                clear g25
                obtain ⟨e37, g37⟩ : a.tmps[37]? = some (vs 22) ∧ vs 22 = undef := hn 22 (by decide)
                rw [g37] at e37
                clear g37
                clear hn ho hu
                go_simp
                exact hK _ _ (keeps_refl _) hI rfl
              · intro _ a w1 vs hI ho hn hu K hK
                obtain ⟨e22, g22⟩ : a.tmps[22]? = some (vs 7) ∧ vs 7 = .bool false := hn 7 (by decide)
                rw [g22] at e22
                clear g22
                obtain ⟨e38, g38⟩ : a.tmps[38]? = some (vs 23) ∧ vs 23 = .bool false := hn 23 (by decide)
                rw [g38] at e38
                clear g38
                clear hn ho hu
                go_simp
                exact hK _ _ (keeps_refl _) hI rfl
              · intro _ a w1 vs hI ho hn hu K hK
                obtain ⟨e39, g39⟩ : a.tmps[39]? = some (vs 24) ∧ vs 24 = .bool false := hn 24 (by decide)
                rw [g39] at e39
                clear g39
                clear hn ho hu
                go_simp
                exact hK _ _ (keeps_refl _) hI rfl
              · intro _ a w1 vs hI ho hn hu K hK
                have e0 : a.tmps[0]? = some (.slice (some ⟨b1, o1, none⟩) n q) := ho 0 rfl
                clear hn ho hu
                go_simp
                exact hK _ _ (keeps_refl _) hI rfl
              · intro _ a w1 vs hI ho hn hu K hK
                have e3 : a.tmps[3]? = some (.int .i64 (k : Int)) := ho 3 rfl
                clear hn ho hu
                go_simp
                exact hK _ _ (keeps_refl _) hI rfl
              · intro _ a w1 vs hI ho hn hu K hK
                obtain ⟨e41, g41⟩ : a.tmps[41]? = some (vs 26) ∧ vs 26 = .slice (some ⟨b1, o1, none⟩) n q := hn 26 (by decide)
                rw [g41] at e41
                clear g41
                obtain ⟨e42, g42⟩ : a.tmps[42]? = some (vs 27) ∧ vs 27 = .int .i64 (k : Int) := hn 27 (by decide)
                rw [g42] at e42
                clear g42
                clear hn ho hu
                have i1 := HA.out.1
                have i2 := HA.out.2
                go_simp
                exact hK _ _ (keeps_refl _) hI rfl
              · intro _ a w1 vs hI ho hn hu K hK
                obtain ⟨e43, g43⟩ : a.tmps[43]? = some (vs 28) ∧ vs 28 = .pointer (some ⟨b1, o1 + k * 3, none⟩) := hn 28 (by decide)
                rw [g43] at e43
                clear g43
                clear hn ho hu
                go_simp
                exact hK _ _ (keeps_refl _) hI rfl
              · intro _ a w1 vs hI ho hn hu K hK
                obtain ⟨e44, g44⟩ : a.tmps[44]? = some (vs 29) ∧ vs 29 = .pointer (some ⟨b1, o1 + k * 3 + 2, none⟩) := hn 29 (by decide)
                rw [g44] at e44
                clear g44
                clear hn ho hu
                have c0 := keeps_cell hI T2.out
                go_simp
                exact hK _ _ (keeps_refl _) hI rfl
              · intro _ a w1 vs hI ho hn hu K hK
                obtain ⟨e45, g45⟩ : a.tmps[45]? = some (vs 30) ∧ vs 30 = .string T := hn 30 (by decide)
                rw [g45] at e45
                clear g45
                clear hn ho hu
                go_simp
                exact hK _ _ (keeps_refl _) hI rfl
              · intro _ a w1 vs hI ho hn hu K hK
                obtain ⟨e46, g46⟩ : a.tmps[46]? = some (vs 31) ∧ vs 31 = .int .i64 (T.size : Int) := hn 31 (by decide)
                rw [g46] at e46
                clear g46
                clear hn ho hu
                have q1 := HBG.out
                go_simp
                exact hK _ _ (keeps_refl _) hI rfl
              · intro _ a w1 vs hI ho hn hu K hK
                obtain ⟨e40, g40⟩ : a.tmps[40]? = some (vs 25) ∧ vs 25 = .bool false := hn 25 (by decide)
                rw [g40] at e40
                clear g40
                obtain ⟨e47, g47⟩ : a.tmps[47]? = some (vs 32) ∧ vs 32 = .bool true := hn 32 (by decide)
                rw [g47] at e47
                clear g47
                clear hn ho hu
                go_simp
                exact hK _ _ (keeps_refl _) hI rfl
              · intro _ a w1 vs hI ho hn hu K hK
                obtain ⟨e48, g48⟩ : a.tmps[48]? = some (vs 33) ∧ vs 33 = .bool true := hn 33 (by decide)
                rw [g48] at e48
                clear g48
                clear hn ho hu
                go_simp
                exact hK _ _ (keeps_refl _) hI rfl
              · intro hs; cases hs
              · intro hs; cases hs
              · intro hs; cases hs
              · intro hs; cases hs
              · intro hs; cases hs
              · intro hs; cases hs
              · intro hs; cases hs
              · intro hs; cases hs
              · intro hs; cases hs
              · intro hs; cases hs
              · intro hs; cases hs
              · intro hs; cases hs
              · intro hs; cases hs
              · intro _ a w1 vs hI ho hn hu K hK
                obtain ⟨e49, g49⟩ : a.tmps[49]? = some (vs 34) ∧ vs 34 = .bool true := hn 34 (by decide)
                rw [g49] at e49
                clear g49
                obtain ⟨e62, g62⟩ : a.tmps[62]? = some (vs 47) ∧ vs 47 = undef := hn 47 (by decide)
                rw [g62] at e62
                clear g62
                clear hn ho hu
                go_simp
                exact hK _ _ (keeps_refl _) hI rfl
            · intro vs wE hI hG
              have eL48 : vs 48 = .bool true := hG 48 (by decide)
              have HKE := Lib.hid hI
              clear hG hI
              simp only [setAll, Nat.zero_add, Nat.reduceAdd, List.setIfInBounds_toArray, List.set_cons_zero, List.set_cons_succ, eL48]
              clear eL48
              generalize vs 0 = y0 at *
              generalize vs 1 = y1 at *
              generalize vs 2 = y2 at *
              generalize vs 3 = y3 at *
              generalize vs 4 = y4 at *
              generalize vs 5 = y5 at *
              generalize vs 6 = y6 at *
              generalize vs 7 = y7 at *
              generalize vs 8 = y8 at *
              generalize vs 9 = y9 at *
              generalize vs 10 = y10 at *
              generalize vs 11 = y11 at *
              generalize vs 12 = y12 at *
              generalize vs 13 = y13 at *
              generalize vs 14 = y14 at *
              generalize vs 15 = y15 at *
              generalize vs 16 = y16 at *
              generalize vs 17 = y17 at *
              generalize vs 18 = y18 at *
              generalize vs 19 = y19 at *
              generalize vs 20 = y20 at *
              generalize vs 21 = y21 at *
              generalize vs 22 = y22 at *
              generalize vs 23 = y23 at *
              generalize vs 24 = y24 at *
              generalize vs 25 = y25 at *
              generalize vs 26 = y26 at *
              generalize vs 27 = y27 at *
              generalize vs 28 = y28 at *
              generalize vs 29 = y29 at *
              generalize vs 30 = y30 at *
              generalize vs 31 = y31 at *
              generalize vs 32 = y32 at *
              generalize vs 33 = y33 at *
              generalize vs 34 = y34 at *
              generalize vs 35 = y35 at *
              generalize vs 36 = y36 at *
              generalize vs 37 = y37 at *
              generalize vs 38 = y38 at *
              generalize vs 39 = y39 at *
              generalize vs 40 = y40 at *
              generalize vs 41 = y41 at *
              generalize vs 42 = y42 at *
              generalize vs 43 = y43 at *
              generalize vs 44 = y44 at *
              generalize vs 45 = y45 at *
              generalize vs 46 = y46 at *
              generalize vs 47 = y47 at *
              have HKW := Lib.hid (hK.out.trans HKE.out)
              clear HKE
              go_wp2_with fail
              go_ret
              exact ⟨by rw [HT2.out]; rfl, HKW.out⟩
          · have HBG : Hid (decide ((16384 : Int) < (T.size : Int)) = false) := decide_eq_false (by omega)
            have hz2 : decide (T.size ≤ 16384) = true := decide_eq_true (by omega)
            cases D with
            | false =>
              have HOK : Hid (okR l k = (!I || dirIn l U)) := by show _ = _; rw [HWK.out, hz2]; simp [HK0.out]
              clear hz hz2
              go_wp2_with fail
              refine wp_region_stage [15, 16, 17, 18, 19, 20, 21, 22, 23, 24, 25, 26, 27, 28, 29, 30, 31, 32, 33, 34, 35, 36, 37, 38, 39, 40, 41, 42, 43, 44, 45, 46, 47, 48, 49, 50, 51, 52, 53, 54, 55, 56, 57, 58, 59, 60, 61, 62, 63] [[], [], [0, 1], [2], [3], [4], [5], [6], [7], [7, 8], [7, 9], [10], [10], [10], [10], [10], [10], [10], [10], [10], [10], [10], [10], [7, 10, 22], [7, 23], [24], [25], [25], [25, 26, 27], [25, 28], [25, 29], [25, 30], [25, 31], [25, 32], [33], [34], [34], [34, 35, 36], [34, 37], [34, 38], [34, 39], [40], [40], [40], [40], [40], [40], [34, 40, 46], [34, 47]] [] [0, 0, 0, 0, 0, 0, 0, 0, 0, 0, 0, 0, 0, 0, 0, 0, 0, 0, 0, 0, 0, 0, 0, 0, 0, 0, 0, 0, 0, 0, 0, 0, 0, 0, 0, 0, 0, 0, 0, 0, 0, 0, 0, 0, 0, 0, 0, 0, 0] [11, 12, 13, 14, 15, 16, 17, 18, 19, 20, 21, 22, 41, 42, 43, 44, 45, 46] (fun i v _ => rtrZc b1 o1 n q k kp P Pp T i v) (fun w w' => Keeps w w') (fun _ _ w' => Keeps wr w') (by kernel_rfl) (by kernel_rfl) (by kernel_rfl) (by kernel_rfl) (by kernel_rfl) (by kernel_rfl) (by kernel_rfl) ?_ ?_ ?_ ?_ ?_ ?_ ?_
              · exact fun i v w w' c h => h
              · exact fun w => keeps_refl w
              · exact fun i s vs w _ h => h
              · refine ⟨?_, ?_, ?_, ?_, ?_, ?_, ?_, ?_, ?_, ?_, ?_, ?_, ?_, ?_, ?_, ?_, ?_, ?_, ?_, ?_, ?_, ?_, ?_, ?_, ?_, ?_, ?_, ?_, ?_, ?_, ?_, ?_, ?_, ?_, ?_, ?_, ?_, ?_, ?_, ?_, ?_, ?_, ?_, ?_, ?_, ?_, ?_, ?_, ?_, trivial⟩
                · exact fun g b h => by (cases h)
                · exact fun g b h => by (cases h)
                · exact fun g b h => by (cases h)
                · exact fun g b h => by (cases h)
                · exact fun g b h => by (cases h)
                · exact fun g b h => by (cases h)
                · exact fun g b h => by (cases h)
                · exact fun g b h => by (cases h)
                · exact fun g b h => by (cases h; exact ⟨by decide, fun v w h => h⟩)
                · exact fun g b h => by (cases h; exact ⟨by decide, fun v w h => h⟩)
                · exact fun g b h => by (cases h; exact ⟨by decide, fun v w h => h⟩)
                · exact ⟨⟨_, _, rfl, by decide, fun v w h => by (first | (change v = _ at h; subst h; intro x; cases x) | skip)⟩, fun w => rfl⟩
                · exact ⟨⟨_, _, rfl, by decide, fun v w h => by (first | (change v = _ at h; subst h; intro x; cases x) | skip)⟩, fun w => rfl⟩
                · exact ⟨⟨_, _, rfl, by decide, fun v w h => by (first | (change v = _ at h; subst h; intro x; cases x) | skip)⟩, fun w => rfl⟩
                · exact ⟨⟨_, _, rfl, by decide, fun v w h => by (first | (change v = _ at h; subst h; intro x; cases x) | skip)⟩, fun w => rfl⟩
                · exact ⟨⟨_, _, rfl, by decide, fun v w h => by (first | (change v = _ at h; subst h; intro x; cases x) | skip)⟩, fun w => rfl⟩
                · exact ⟨⟨_, _, rfl, by decide, fun v w h => by (first | (change v = _ at h; subst h; intro x; cases x) | skip)⟩, fun w => rfl⟩
                · exact ⟨⟨_, _, rfl, by decide, fun v w h => by (first | (change v = _ at h; subst h; intro x; cases x) | skip)⟩, fun w => rfl⟩
                · exact ⟨⟨_, _, rfl, by decide, fun v w h => by (first | (change v = _ at h; subst h; intro x; cases x) | skip)⟩, fun w => rfl⟩
                · exact ⟨⟨_, _, rfl, by decide, fun v w h => by (first | (change v = _ at h; subst h; intro x; cases x) | skip)⟩, fun w => rfl⟩
                · exact ⟨⟨_, _, rfl, by decide, fun v w h => by (first | (change v = _ at h; subst h; intro x; cases x) | skip)⟩, fun w => rfl⟩
                · exact ⟨⟨_, _, rfl, by decide, fun v w h => by (first | (change v = _ at h; subst h; intro x; cases x) | skip)⟩, fun w => rfl⟩
                · exact ⟨⟨_, _, rfl, by decide, fun v w h => by (first | (change v = _ at h; subst h; intro x; cases x) | skip)⟩, fun w => rfl⟩
                · exact fun g b h => by (cases h; exact ⟨by decide, fun v w h => h⟩)
                · exact fun g b h => by (cases h)
                · exact fun g b h => by (cases h)
                · exact fun g b h => by (cases h; exact ⟨by decide, fun v w h => h⟩)
                · exact fun g b h => by (cases h; exact ⟨by decide, fun v w h => h⟩)
                · exact fun g b h => by (cases h; exact ⟨by decide, fun v w h => h⟩)
                · exact fun g b h => by (cases h; exact ⟨by decide, fun v w h => h⟩)
                · exact fun g b h => by (cases h; exact ⟨by decide, fun v w h => h⟩)
                · exact fun g b h => by (cases h; exact ⟨by decide, fun v w h => h⟩)
                · exact fun g b h => by (cases h; exact ⟨by decide, fun v w h => h⟩)
                · exact fun g b h => by (cases h)
                · exact fun g b h => by (cases h)
                · exact fun g b h => by (cases h; exact ⟨by decide, fun v w h => h⟩)
                · exact fun g b h => by (cases h; exact ⟨by decide, fun v w h => h⟩)
                · exact fun g b h => by (cases h; exact ⟨by decide, fun v w h => h⟩)
                · exact fun g b h => by (cases h; exact ⟨by decide, fun v w h => h⟩)
                · exact fun g b h => by (cases h; exact ⟨by decide, fun v w h => h⟩)
                · exact fun g b h => by (cases h; exact ⟨by decide, fun v w h => h⟩)
                · exact ⟨⟨_, _, rfl, by decide, fun v w h => by (first | (change v = _ at h; subst h; intro x; cases x) | skip)⟩, fun w => rfl⟩
                · exact ⟨⟨_, _, rfl, by decide, fun v w h => by (first | (change v = _ at h; subst h; intro x; cases x) | skip)⟩, fun w => rfl⟩
                · exact ⟨⟨_, _, rfl, by decide, fun v w h => by (first | (change v = _ at h; subst h; intro x; cases x) | skip)⟩, fun w => rfl⟩
                · exact ⟨⟨_, _, rfl, by decide, fun v w h => by (first | (change v = _ at h; subst h; intro x; cases x) | skip)⟩, fun w => rfl⟩
                · exact ⟨⟨_, _, rfl, by decide, fun v w h => by (first | (change v = _ at h; subst h; intro x; cases x) | skip)⟩, fun w => rfl⟩
                · exact ⟨⟨_, _, rfl, by decide, fun v w h => by (first | (change v = _ at h; subst h; intro x; cases x) | skip)⟩, fun w => rfl⟩
                · exact fun g b h => by (cases h; exact ⟨by decide, fun v w h => h⟩)
                · exact fun g b h => by (cases h)
              · exact fun _ _ => keeps_refl wr
              · refine ⟨?_, ?_, ?_, ?_, ?_, ?_, ?_, ?_, ?_, ?_, ?_, ?_, ?_, ?_, ?_, ?_, ?_, ?_, ?_, ?_, ?_, ?_, ?_, ?_, ?_, ?_, ?_, ?_, ?_, ?_, ?_, ?_, ?_, ?_, ?_, ?_, ?_, ?_, ?_, ?_, ?_, ?_, ?_, ?_, ?_, ?_, ?_, ?_, ?_, trivial⟩
                · intro _ a w1 vs hI ho hn hu K hK
                  have e0 : a.tmps[0]? = some (.slice (some ⟨b1, o1, none⟩) n q) := ho 0 rfl
                  clear hn ho hu
                  go_simp
                  exact hK _ _ (keeps_refl _) hI rfl
                · intro _ a w1 vs hI ho hn hu K hK
                  have e3 : a.tmps[3]? = some (.int .i64 (k : Int)) := ho 3 rfl
                  clear hn ho hu
                  go_simp
                  exact hK _ _ (keeps_refl _) hI rfl
                · intro _ a w1 vs hI ho hn hu K hK
                  obtain ⟨e15, g15⟩ : a.tmps[15]? = some (vs 0) ∧ vs 0 = .slice (some ⟨b1, o1, none⟩) n q := hn 0 (by decide)
                  rw [g15] at e15
                  clear g15
                  obtain ⟨e16, g16⟩ : a.tmps[16]? = some (vs 1) ∧ vs 1 = .int .i64 (k : Int) := hn 1 (by decide)
                  rw [g16] at e16
                  clear g16
                  clear hn ho hu
                  have i1 := HA.out.1
                  have i2 := HA.out.2
                  go_simp
                  exact hK _ _ (keeps_refl _) hI rfl
                · intro _ a w1 vs hI ho hn hu K hK
                  obtain ⟨e17, g17⟩ : a.tmps[17]? = some (vs 2) ∧ vs 2 = .pointer (some ⟨b1, o1 + k * 3, none⟩) := hn 2 (by decide)
                  rw [g17] at e17
                  clear g17
                  clear hn ho hu
                  go_simp
                  exact hK _ _ (keeps_refl _) hI rfl
                · intro _ a w1 vs hI ho hn hu K hK
                  obtain ⟨e18, g18⟩ : a.tmps[18]? = some (vs 3) ∧ vs 3 = .pointer (some ⟨b1, o1 + k * 3, none⟩) := hn 3 (by decide)
                  rw [g18] at e18
                  clear g18
                  clear hn ho hu
                  have c0 := keeps_cell hI P0.out
                  go_simp
                  exact hK _ _ (keeps_refl _) hI rfl
                · intro _ a w1 vs hI ho hn hu K hK
                  obtain ⟨e19, g19⟩ : a.tmps[19]? = some (vs 4) ∧ vs 4 = .string P := hn 4 (by decide)
                  rw [g19] at e19
                  clear g19
                  clear hn ho hu
                  go_simp
                  refine Calls.mono (HMY.out _) ?_
                  rintro e w' ⟨rfl, hk2⟩
                  go_simp
                  exact hK _ _ hk2 (Keeps.trans hI hk2) rfl
                · intro _ a w1 vs hI ho hn hu K hK
                  obtain ⟨e20, g20⟩ : a.tmps[20]? = some (vs 5) ∧ vs 5 = .bool true := hn 5 (by decide)
                  rw [g20] at e20
                  clear g20
                  clear hn ho hu
                  go_simp
                  exact hK _ _ (keeps_refl _) hI rfl
                · intro _ a w1 vs hI ho hn hu K hK
                  obtain ⟨e21, g21⟩ : a.tmps[21]? = some (vs 6) ∧ vs 6 = .bool false := hn 6 (by decide)
                  rw [g21] at e21
                  clear g21
                  clear hn ho hu
                  go_simp
                  exact hK _ _ (keeps_refl _) hI rfl
                · intro _ a w1 vs hI ho hn hu K hK
                  have e3 : a.tmps[3]? = some (.int .i64 (k : Int)) := ho 3 rfl
                  clear hn ho hu
                  go_simp
                  exact hK _ _ (keeps_refl _) hI rfl
                · intro _ a w1 vs hI ho hn hu K hK
                  obtain ⟨e23, g23⟩ : a.tmps[23]? = some (vs 8) ∧ vs 8 = .int .i64 (k : Int) := hn 8 (by decide)
                  rw [g23] at e23
                  clear g23
                  clear hn ho hu
                  have q1 := HG.out.1
                  have q2 := HG.out.2
                  go_simp
                  exact hK _ _ (keeps_refl _) hI rfl
                · intro _ a w1 vs hI ho hn hu K hK
                  obtain ⟨e24, g24⟩ : a.tmps[24]? = some (vs 9) ∧ vs 9 = .bool false := hn 9 (by decide)
                  rw [g24] at e24
                  clear g24
                  clear hn ho hu
                  go_simp
                  exact hK _ _ (keeps_refl _) hI rfl
                · intro hs; cases hs
                · intro hs; cases hs
                · intro hs; cases hs
                · intro hs; cases hs
                · intro hs; cases hs
                · intro hs; cases hs
                · intro hs; cases hs
                · intro hs; cases hs
                · intro hs; cases hs
                · intro hs; cases hs
                · intro hs; cases hs
                · intro hs; cases hs
                · intro _ a w1 vs hI ho hn hu K hK
                  obtain ⟨e25, g25⟩ : a.tmps[25]? = some (vs 10) ∧ vs 10 = .bool false := hn 10 (by decide)
                  rw [g25] at e25
                  clear g25
                  obtain ⟨e37, g37⟩ : a.tmps[37]? = some (vs 22) ∧ vs 22 = undef := hn 22 (by decide)
                  rw [g37] at e37
                  clear g37
                  clear hn ho hu
                  go_simp
                  exact hK _ _ (keeps_refl _) hI rfl
                · intro _ a w1 vs hI ho hn hu K hK
                  obtain ⟨e22, g22⟩ : a.tmps[22]? = some (vs 7) ∧ vs 7 = .bool false := hn 7 (by decide)
                  rw [g22] at e22
                  clear g22
                  obtain ⟨e38, g38⟩ : a.tmps[38]? = some (vs 23) ∧ vs 23 = .bool false := hn 23 (by decide)
                  rw [g38] at e38
                  clear g38
                  clear hn ho hu
                  go_simp
                  exact hK _ _ (keeps_refl _) hI rfl
                · intro _ a w1 vs hI ho hn hu K hK
                  obtain ⟨e39, g39⟩ : a.tmps[39]? = some (vs 24) ∧ vs 24 = .bool false := hn 24 (by decide)
                  rw [g39] at e39
                  clear g39
                  clear hn ho hu
                  go_simp
                  exact hK _ _ (keeps_refl _) hI rfl
                · intro _ a w1 vs hI ho hn hu K hK
                  have e0 : a.tmps[0]? = some (.slice (some ⟨b1, o1, none⟩) n q) := ho 0 rfl
                  clear hn ho hu
                  go_simp
                  exact hK _ _ (keeps_refl _) hI rfl
                · intro _ a w1 vs hI ho hn hu K hK
                  have e3 : a.tmps[3]? = some (.int .i64 (k : Int)) := ho 3 rfl
                  clear hn ho hu
                  go_simp
                  exact hK _ _ (keeps_refl _) hI rfl
                · intro _ a w1 vs hI ho hn hu K hK
                  obtain ⟨e41, g41⟩ : a.tmps[41]? = some (vs 26) ∧ vs 26 = .slice (some ⟨b1, o1, none⟩) n q := hn 26 (by decide)
                  rw [g41] at e41
                  clear g41
                  obtain ⟨e42, g42⟩ : a.tmps[42]? = some (vs 27) ∧ vs 27 = .int .i64 (k : Int) := hn 27 (by decide)
                  rw [g42] at e42
                  clear g42
                  clear hn ho hu
                  have i1 := HA.out.1
                  have i2 := HA.out.2
                  go_simp
                  exact hK _ _ (keeps_refl _) hI rfl
                · intro _ a w1 vs hI ho hn hu K hK
                  obtain ⟨e43, g43⟩ : a.tmps[43]? = some (vs 28) ∧ vs 28 = .pointer (some ⟨b1, o1 + k * 3, none⟩) := hn 28 (by decide)
                  rw [g43] at e43
                  clear g43
                  clear hn ho hu
                  go_simp
                  exact hK _ _ (keeps_refl _) hI rfl
                · intro _ a w1 vs hI ho hn hu K hK
                  obtain ⟨e44, g44⟩ : a.tmps[44]? = some (vs 29) ∧ vs 29 = .pointer (some ⟨b1, o1 + k * 3 + 2, none⟩) := hn 29 (by decide)
                  rw [g44] at e44
                  clear g44
                  clear hn ho hu
                  have c0 := keeps_cell hI T2.out
                  go_simp
                  exact hK _ _ (keeps_refl _) hI rfl
                · intro _ a w1 vs hI ho hn hu K hK
                  obtain ⟨e45, g45⟩ : a.tmps[45]? = some (vs 30) ∧ vs 30 = .string T := hn 30 (by decide)
                  rw [g45] at e45
                  clear g45
                  clear hn ho hu
                  go_simp
                  exact hK _ _ (keeps_refl _) hI rfl
                · intro _ a w1 vs hI ho hn hu K hK
                  obtain ⟨e46, g46⟩ : a.tmps[46]? = some (vs 31) ∧ vs 31 = .int .i64 (T.size : Int) := hn 31 (by decide)
                  rw [g46] at e46
                  clear g46
                  clear hn ho hu
                  have q1 := HBG.out
                  go_simp
                  exact hK _ _ (keeps_refl _) hI rfl
                · intro _ a w1 vs hI ho hn hu K hK
                  obtain ⟨e40, g40⟩ : a.tmps[40]? = some (vs 25) ∧ vs 25 = .bool false := hn 25 (by decide)
                  rw [g40] at e40
                  clear g40
                  obtain ⟨e47, g47⟩ : a.tmps[47]? = some (vs 32) ∧ vs 32 = .bool false := hn 32 (by decide)
                  rw [g47] at e47
                  clear g47
                  clear hn ho hu
                  go_simp
                  exact hK _ _ (keeps_refl _) hI rfl
                · intro _ a w1 vs hI ho hn hu K hK
                  obtain ⟨e48, g48⟩ : a.tmps[48]? = some (vs 33) ∧ vs 33 = .bool false := hn 33 (by decide)
                  rw [g48] at e48
                  clear g48
                  clear hn ho hu
                  go_simp
                  exact hK _ _ (keeps_refl _) hI rfl
                · intro _ a w1 vs hI ho hn hu K hK
                  have e0 : a.tmps[0]? = some (.slice (some ⟨b1, o1, none⟩) n q) := ho 0 rfl
                  clear hn ho hu
                  go_simp
                  exact hK _ _ (keeps_refl _) hI rfl
                · intro _ a w1 vs hI ho hn hu K hK
                  have e3 : a.tmps[3]? = some (.int .i64 (k : Int)) := ho 3 rfl
                  clear hn ho hu
                  go_simp
                  exact hK _ _ (keeps_refl _) hI rfl
                · intro _ a w1 vs hI ho hn hu K hK
                  obtain ⟨e50, g50⟩ : a.tmps[50]? = some (vs 35) ∧ vs 35 = .slice (some ⟨b1, o1, none⟩) n q := hn 35 (by decide)
                  rw [g50] at e50
                  clear g50
                  obtain ⟨e51, g51⟩ : a.tmps[51]? = some (vs 36) ∧ vs 36 = .int .i64 (k : Int) := hn 36 (by decide)
                  rw [g51] at e51
                  clear g51
                  clear hn ho hu
                  have i1 := HA.out.1
                  have i2 := HA.out.2
                  go_simp
                  exact hK _ _ (keeps_refl _) hI rfl
                · intro _ a w1 vs hI ho hn hu K hK
                  obtain ⟨e52, g52⟩ : a.tmps[52]? = some (vs 37) ∧ vs 37 = .pointer (some ⟨b1, o1 + k * 3, none⟩) := hn 37 (by decide)
                  rw [g52] at e52
                  clear g52
                  clear hn ho hu
                  go_simp
                  exact hK _ _ (keeps_refl _) hI rfl
                · intro _ a w1 vs hI ho hn hu K hK
                  obtain ⟨e53, g53⟩ : a.tmps[53]? = some (vs 38) ∧ vs 38 = .pointer (some ⟨b1, o1 + k * 3 + 1, none⟩) := hn 38 (by decide)
                  rw [g53] at e53
                  clear g53
                  clear hn ho hu
                  have c0 := keeps_cell hI D1.out
                  go_simp
                  exact hK _ _ (keeps_refl _) hI rfl
                · intro _ a w1 vs hI ho hn hu K hK
                  obtain ⟨e54, g54⟩ : a.tmps[54]? = some (vs 39) ∧ vs 39 = .bool false := hn 39 (by decide)
                  rw [g54] at e54
                  clear g54
                  clear hn ho hu
                  go_simp
                  exact hK _ _ (keeps_refl _) hI rfl
                · intro hs; cases hs
                · intro hs; cases hs
                · intro hs; cases hs
                · intro hs; cases hs
                · intro hs; cases hs
                · intro hs; cases hs
                · intro _ a w1 vs hI ho hn hu K hK
                  obtain ⟨e55, g55⟩ : a.tmps[55]? = some (vs 40) ∧ vs 40 = .bool false := hn 40 (by decide)
                  rw [g55] at e55
                  clear g55
                  obtain ⟨e61, g61⟩ : a.tmps[61]? = some (vs 46) ∧ vs 46 = undef := hn 46 (by decide)
                  rw [g61] at e61
                  clear g61
                  clear hn ho hu
                  go_simp
                  exact hK _ _ (keeps_refl _) hI rfl
                · intro _ a w1 vs hI ho hn hu K hK
                  obtain ⟨e49, g49⟩ : a.tmps[49]? = some (vs 34) ∧ vs 34 = .bool false := hn 34 (by decide)
                  rw [g49] at e49
                  clear g49
                  obtain ⟨e62, g62⟩ : a.tmps[62]? = some (vs 47) ∧ vs 47 = .bool false := hn 47 (by decide)
                  rw [g62] at e62
                  clear g62
                  clear hn ho hu
                  go_simp
                  exact hK _ _ (keeps_refl _) hI rfl
              · intro vs wE hI hG
                have eL48 : vs 48 = .bool false := hG 48 (by decide)
                have HKE := Lib.hid hI
                clear hG hI
                simp only [setAll, Nat.zero_add, Nat.reduceAdd, List.setIfInBounds_toArray, List.set_cons_zero, List.set_cons_succ, eL48]
                clear eL48
                generalize vs 0 = y0 at *
                generalize vs 1 = y1 at *
                generalize vs 2 = y2 at *
                generalize vs 3 = y3 at *
                generalize vs 4 = y4 at *
                generalize vs 5 = y5 at *
                generalize vs 6 = y6 at *
                generalize vs 7 = y7 at *
                generalize vs 8 = y8 at *
                generalize vs 9 = y9 at *
                generalize vs 10 = y10 at *
                generalize vs 11 = y11 at *
                generalize vs 12 = y12 at *
                generalize vs 13 = y13 at *
                generalize vs 14 = y14 at *
                generalize vs 15 = y15 at *
                generalize vs 16 = y16 at *
                generalize vs 17 = y17 at *
                generalize vs 18 = y18 at *
                generalize vs 19 = y19 at *
                generalize vs 20 = y20 at *
                generalize vs 21 = y21 at *
                generalize vs 22 = y22 at *
                generalize vs 23 = y23 at *
                generalize vs 24 = y24 at *
                generalize vs 25 = y25 at *
                generalize vs 26 = y26 at *
                generalize vs 27 = y27 at *
                generalize vs 28 = y28 at *
                generalize vs 29 = y29 at *
                generalize vs 30 = y30 at *
                generalize vs 31 = y31 at *
                generalize vs 32 = y32 at *
                generalize vs 33 = y33 at *
                generalize vs 34 = y34 at *
                generalize vs 35 = y35 at *
                generalize vs 36 = y36 at *
                generalize vs 37 = y37 at *
                generalize vs 38 = y38 at *
                generalize vs 39 = y39 at *
                generalize vs 40 = y40 at *
                generalize vs 41 = y41 at *
                generalize vs 42 = y42 at *
                generalize vs 43 = y43 at *
                generalize vs 44 = y44 at *
                generalize vs 45 = y45 at *
                generalize vs 46 = y46 at *
                generalize vs 47 = y47 at *
                have HKW := Lib.hid (hK.out.trans HKE.out)
                have d0 := keeps_cell HKE.out P0.out
                have HFW := Lib.hid (RecAt.keeps H.out HKW.out)
                clear HKE
                go_wp2_with fail
                refine Calls.mono (HAB.out _) ?_
                rintro e wz ⟨rfl, rfl⟩
                cases I with
                | false =>
                  have HN3 := Lib.hid (HN2.out (by rw [HOK.out]; rfl))
                  go_wp2_with fail
                  refine ⟨?_, by simp [intOf]; omega⟩
                  first | exact ⟨k + 1, by omega, by go_num, HN3, HKW⟩ | ((repeat apply Exists.intro); exact ⟨⟨k + 1, by omega, by go_num, HN3, HKW⟩, rfl⟩)
                | true =>
                  have HDI := Lib.hid (fun wx (hf : FilesAt wx.heap (.slice (some ⟨b1, o1, none⟩) n q) l) => rdir_any _ l U wx hf)
                  generalize dirIn l U = y at *
                  go_wp2_with fail
                  refine Calls.mono (HDI.out _ HFW.out) ?_
                  rintro e wy ⟨rfl, rfl⟩
                  cases y with
                  | false =>
                    have HT2 := Lib.hid (HF.out (by rw [HOK.out]; rfl))
                    go_wp2_with fail
                    go_ret
                    exact ⟨by rw [HT2.out]; rfl, HKW.out⟩
                  | true =>
                    have HN3 := Lib.hid (HN2.out (by rw [HOK.out]; rfl))
                    go_wp2_with fail
                    refine ⟨?_, by simp [intOf]; omega⟩
                    first | exact ⟨k + 1, by omega, by go_num, HN3, HKW⟩ | ((repeat apply Exists.intro); exact ⟨⟨k + 1, by omega, by go_num, HN3, HKW⟩, rfl⟩)
            | true =>
              by_cases ht : T.size = 0
              · have HTE := Lib.hid (empty_facts ht)
                have HOK : Hid (okR l k = (!I || dirIn l U)) := by show _ = _; rw [HWK.out, hz2]; simp [ht, HK0.out]
                clear hz hz2 ht
                go_wp2_with fail
                refine wp_region_stage [15, 16, 17, 18, 19, 20, 21, 22, 23, 24, 25, 26, 27, 28, 29, 30, 31, 32, 33, 34, 35, 36, 37, 38, 39, 40, 41, 42, 43, 44, 45, 46, 47, 48, 49, 50, 51, 52, 53, 54, 55, 56, 57, 58, 59, 60, 61, 62, 63] [[], [], [0, 1], [2], [3], [4], [5], [6], [7], [7, 8], [7, 9], [10], [10], [10], [10], [10], [10], [10], [10], [10], [10], [10], [10], [7, 10, 22], [7, 23], [24], [25], [25], [25, 26, 27], [25, 28], [25, 29], [25, 30], [25, 31], [25, 32], [33], [34], [34], [34, 35, 36], [34, 37], [34, 38], [34, 39], [40], [40], [40, 41, 42], [40, 43], [40, 44], [40, 45], [34, 40, 46], [34, 47]] [] [0, 0, 0, 0, 0, 0, 0, 0, 0, 0, 0, 0, 0, 0, 0, 0, 0, 0, 0, 0, 0, 0, 0, 0, 0, 0, 0, 0, 0, 0, 0, 0, 0, 0, 0, 0, 0, 0, 0, 0, 0, 0, 0, 0, 0, 0, 0, 0, 0] [11, 12, 13, 14, 15, 16, 17, 18, 19, 20, 21, 22] (fun i v _ => rtrZd b1 o1 n q k kp P Pp T i v) (fun w w' => Keeps w w') (fun _ _ w' => Keeps wr w') (by kernel_rfl) (by kernel_rfl) (by kernel_rfl) (by kernel_rfl) (by kernel_rfl) (by kernel_rfl) (by kernel_rfl) ?_ ?_ ?_ ?_ ?_ ?_ ?_
                · exact fun i v w w' c h => h
                · exact fun w => keeps_refl w
                · exact fun i s vs w _ h => h
                · refine ⟨?_, ?_, ?_, ?_, ?_, ?_, ?_, ?_, ?_, ?_, ?_, ?_, ?_, ?_, ?_, ?_, ?_, ?_, ?_, ?_, ?_, ?_, ?_, ?_, ?_, ?_, ?_, ?_, ?_, ?_, ?_, ?_, ?_, ?_, ?_, ?_, ?_, ?_, ?_, ?_, ?_, ?_, ?_, ?_, ?_, ?_, ?_, ?_, ?_, trivial⟩
                  · exact fun g b h => by (cases h)
                  · exact fun g b h => by (cases h)
                  · exact fun g b h => by (cases h)
                  · exact fun g b h => by (cases h)
                  · exact fun g b h => by (cases h)
                  · exact fun g b h => by (cases h)
                  · exact fun g b h => by (cases h)
                  · exact fun g b h => by (cases h)
                  · exact fun g b h => by (cases h; exact ⟨by decide, fun v w h => h⟩)
                  · exact fun g b h => by (cases h; exact ⟨by decide, fun v w h => h⟩)
                  · exact fun g b h => by (cases h; exact ⟨by decide, fun v w h => h⟩)
                  · exact ⟨⟨_, _, rfl, by decide, fun v w h => by (first | (change v = _ at h; subst h; intro x; cases x) | skip)⟩, fun w => rfl⟩
                  · exact ⟨⟨_, _, rfl, by decide, fun v w h => by (first | (change v = _ at h; subst h; intro x; cases x) | skip)⟩, fun w => rfl⟩
                  · exact ⟨⟨_, _, rfl, by decide, fun v w h => by (first | (change v = _ at h; subst h; intro x; cases x) | skip)⟩, fun w => rfl⟩
                  · exact ⟨⟨_, _, rfl, by decide, fun v w h => by (first | (change v = _ at h; subst h; intro x; cases x) | skip)⟩, fun w => rfl⟩
                  · exact ⟨⟨_, _, rfl, by decide, fun v w h => by (first | (change v = _ at h; subst h; intro x; cases x) | skip)⟩, fun w => rfl⟩
                  · exact ⟨⟨_, _, rfl, by decide, fun v w h => by (first | (change v = _ at h; subst h; intro x; cases x) | skip)⟩, fun w => rfl⟩
                  · exact ⟨⟨_, _, rfl, by decide, fun v w h => by (first | (change v = _ at h; subst h; intro x; cases x) | skip)⟩, fun w => rfl⟩
                  · exact ⟨⟨_, _, rfl, by decide, fun v w h => by (first | (change v = _ at h; subst h; intro x; cases x) | skip)⟩, fun w => rfl⟩
                  · exact ⟨⟨_, _, rfl, by decide, fun v w h => by (first | (change v = _ at h; subst h; intro x; cases x) | skip)⟩, fun w => rfl⟩
                  · exact ⟨⟨_, _, rfl, by decide, fun v w h => by (first | (change v = _ at h; subst h; intro x; cases x) | skip)⟩, fun w => rfl⟩
                  · exact ⟨⟨_, _, rfl, by decide, fun v w h => by (first | (change v = _ at h; subst h; intro x; cases x) | skip)⟩, fun w => rfl⟩
                  · exact ⟨⟨_, _, rfl, by decide, fun v w h => by (first | (change v = _ at h; subst h; intro x; cases x) | skip)⟩, fun w => rfl⟩
                  · exact fun g b h => by (cases h; exact ⟨by decide, fun v w h => h⟩)
                  · exact fun g b h => by (cases h)
                  · exact fun g b h => by (cases h)
                  · exact fun g b h => by (cases h; exact ⟨by decide, fun v w h => h⟩)
                  · exact fun g b h => by (cases h; exact ⟨by decide, fun v w h => h⟩)
                  · exact fun g b h => by (cases h; exact ⟨by decide, fun v w h => h⟩)
                  · exact fun g b h => by (cases h; exact ⟨by decide, fun v w h => h⟩)
                  · exact fun g b h => by (cases h; exact ⟨by decide, fun v w h => h⟩)
                  · exact fun g b h => by (cases h; exact ⟨by decide, fun v w h => h⟩)
                  · exact fun g b h => by (cases h; exact ⟨by decide, fun v w h => h⟩)
                  · exact fun g b h => by (cases h)
                  · exact fun g b h => by (cases h)
                  · exact fun g b h => by (cases h; exact ⟨by decide, fun v w h => h⟩)
                  · exact fun g b h => by (cases h; exact ⟨by decide, fun v w h => h⟩)
                  · exact fun g b h => by (cases h; exact ⟨by decide, fun v w h => h⟩)
                  · exact fun g b h => by (cases h; exact ⟨by decide, fun v w h => h⟩)
                  · exact fun g b h => by (cases h; exact ⟨by decide, fun v w h => h⟩)
                  · exact fun g b h => by (cases h; exact ⟨by decide, fun v w h => h⟩)
                  · exact fun g b h => by (cases h; exact ⟨by decide, fun v w h => h⟩)
                  · exact fun g b h => by (cases h; exact ⟨by decide, fun v w h => h⟩)
                  · exact fun g b h => by (cases h; exact ⟨by decide, fun v w h => h⟩)
                  · exact fun g b h => by (cases h; exact ⟨by decide, fun v w h => h⟩)
                  · exact fun g b h => by (cases h; exact ⟨by decide, fun v w h => h⟩)
                  · exact fun g b h => by (cases h; exact ⟨by decide, fun v w h => h⟩)
                  · exact fun g b h => by (cases h; exact ⟨by decide, fun v w h => h⟩)
                  · exact fun g b h => by (cases h)
                · exact fun _ _ => keeps_refl wr
                · refine ⟨?_, ?_, ?_, ?_, ?_, ?_, ?_, ?_, ?_, ?_, ?_, ?_, ?_, ?_, ?_, ?_, ?_, ?_, ?_, ?_, ?_, ?_, ?_, ?_, ?_, ?_, ?_, ?_, ?_, ?_, ?_, ?_, ?_, ?_, ?_, ?_, ?_, ?_, ?_, ?_, ?_, ?_, ?_, ?_, ?_, ?_, ?_, ?_, ?_, trivial⟩
                  · intro _ a w1 vs hI ho hn hu K hK
                    have e0 : a.tmps[0]? = some (.slice (some ⟨b1, o1, none⟩) n q) := ho 0 rfl
                    clear hn ho hu
                    go_simp
                    exact hK _ _ (keeps_refl _) hI rfl
                  · intro _ a w1 vs hI ho hn hu K hK
                    have e3 : a.tmps[3]? = some (.int .i64 (k : Int)) := ho 3 rfl
                    clear hn ho hu
                    go_simp
                    exact hK _ _ (keeps_refl _) hI rfl
                  · intro _ a w1 vs hI ho hn hu K hK
                    obtain ⟨e15, g15⟩ : a.tmps[15]? = some (vs 0) ∧ vs 0 = .slice (some ⟨b1, o1, none⟩) n q := hn 0 (by decide)
                    rw [g15] at e15
                    clear g15
                    obtain ⟨e16, g16⟩ : a.tmps[16]? = some (vs 1) ∧ vs 1 = .int .i64 (k : Int) := hn 1 (by decide)
                    rw [g16] at e16
                    clear g16
                    clear hn ho hu
                    have i1 := HA.out.1
                    have i2 := HA.out.2
                    go_simp
                    exact hK _ _ (keeps_refl _) hI rfl
                  · intro _ a w1 vs hI ho hn hu K hK
                    obtain ⟨e17, g17⟩ : a.tmps[17]? = some (vs 2) ∧ vs 2 = .pointer (some ⟨b1, o1 + k * 3, none⟩) := hn 2 (by decide)
                    rw [g17] at e17
                    clear g17
                    clear hn ho hu
                    go_simp
                    exact hK _ _ (keeps_refl _) hI rfl
                  · intro _ a w1 vs hI ho hn hu K hK
                    obtain ⟨e18, g18⟩ : a.tmps[18]? = some (vs 3) ∧ vs 3 = .pointer (some ⟨b1, o1 + k * 3, none⟩) := hn 3 (by decide)
                    rw [g18] at e18
                    clear g18
                    clear hn ho hu
                    have c0 := keeps_cell hI P0.out
                    go_simp
                    exact hK _ _ (keeps_refl _) hI rfl
                  · intro _ a w1 vs hI ho hn hu K hK
                    obtain ⟨e19, g19⟩ : a.tmps[19]? = some (vs 4) ∧ vs 4 = .string P := hn 4 (by decide)
                    rw [g19] at e19
                    clear g19
                    clear hn ho hu
                    go_simp
                    refine Calls.mono (HMY.out _) ?_
                    rintro e w' ⟨rfl, hk2⟩
                    go_simp
                    exact hK _ _ hk2 (Keeps.trans hI hk2) rfl
                  · intro _ a w1 vs hI ho hn hu K hK
                    obtain ⟨e20, g20⟩ : a.tmps[20]? = some (vs 5) ∧ vs 5 = .bool true := hn 5 (by decide)
                    rw [g20] at e20
                    clear g20
                    clear hn ho hu
                    go_simp
                    exact hK _ _ (keeps_refl _) hI rfl
                  · intro _ a w1 vs hI ho hn hu K hK
                    obtain ⟨e21, g21⟩ : a.tmps[21]? = some (vs 6) ∧ vs 6 = .bool false := hn 6 (by decide)
                    rw [g21] at e21
                    clear g21
                    clear hn ho hu
                    go_simp
                    exact hK _ _ (keeps_refl _) hI rfl
                  · intro _ a w1 vs hI ho hn hu K hK
                    have e3 : a.tmps[3]? = some (.int .i64 (k : Int)) := ho 3 rfl
                    clear hn ho hu
                    go_simp
                    exact hK _ _ (keeps_refl _) hI rfl
                  · intro _ a w1 vs hI ho hn hu K hK
                    obtain ⟨e23, g23⟩ : a.tmps[23]? = some (vs 8) ∧ vs 8 = .int .i64 (k : Int) := hn 8 (by decide)
                    rw [g23] at e23
                    clear g23
                    clear hn ho hu
                    have q1 := HG.out.1
                    have q2 := HG.out.2
                    go_simp
                    exact hK _ _ (keeps_refl _) hI rfl
                  · intro _ a w1 vs hI ho hn hu K hK
                    obtain ⟨e24, g24⟩ : a.tmps[24]? = some (vs 9) ∧ vs 9 = .bool false := hn 9 (by decide)
                    rw [g24] at e24
                    clear g24
                    clear hn ho hu
                    go_simp
                    exact hK _ _ (keeps_refl _) hI rfl
                  · intro hs; cases hs
                  · intro hs; cases hs
                  · intro hs; cases hs
                  · intro hs; cases hs
                  · intro hs; cases hs
                  · intro hs; cases hs
                  · intro hs; cases hs
                  · intro hs; cases hs
                  · intro hs; cases hs
                  · intro hs; cases hs
                  · intro hs; cases hs
                  · intro hs; cases hs
                  · intro _ a w1 vs hI ho hn hu K hK
                    obtain ⟨e25, g25⟩ : a.tmps[25]? = some (vs 10) ∧ vs 10 = .bool false := hn 10 (by decide)
                    rw [g25] at e25
                    clear g25
                    obtain ⟨e37, g37⟩ : a.tmps[37]? = some (vs 22) ∧ vs 22 = undef := hn 22 (by decide)
                    rw [g37] at e37
                    clear g37
                    clear hn ho hu
                    go_simp
                    exact hK _ _ (keeps_refl _) hI rfl
                  · intro _ a w1 vs hI ho hn hu K hK
                    obtain ⟨e22, g22⟩ : a.tmps[22]? = some (vs 7) ∧ vs 7 = .bool false := hn 7 (by decide)
                    rw [g22] at e22
                    clear g22
                    obtain ⟨e38, g38⟩ : a.tmps[38]? = some (vs 23) ∧ vs 23 = .bool false := hn 23 (by decide)
                    rw [g38] at e38
                    clear g38
                    clear hn ho hu
                    go_simp
                    exact hK _ _ (keeps_refl _) hI rfl
                  · intro _ a w1 vs hI ho hn hu K hK
                    obtain ⟨e39, g39⟩ : a.tmps[39]? = some (vs 24) ∧ vs 24 = .bool false := hn 24 (by decide)
                    rw [g39] at e39
                    clear g39
                    clear hn ho hu
                    go_simp
                    exact hK _ _ (keeps_refl _) hI rfl
                  · intro _ a w1 vs hI ho hn hu K hK
                    have e0 : a.tmps[0]? = some (.slice (some ⟨b1, o1, none⟩) n q) := ho 0 rfl
                    clear hn ho hu
                    go_simp
                    exact hK _ _ (keeps_refl _) hI rfl
                  · intro _ a w1 vs hI ho hn hu K hK
                    have e3 : a.tmps[3]? = some (.int .i64 (k : Int)) := ho 3 rfl
                    clear hn ho hu
                    go_simp
                    exact hK _ _ (keeps_refl _) hI rfl
                  · intro _ a w1 vs hI ho hn hu K hK
                    obtain ⟨e41, g41⟩ : a.tmps[41]? = some (vs 26) ∧ vs 26 = .slice (some ⟨b1, o1, none⟩) n q := hn 26 (by decide)
                    rw [g41] at e41
                    clear g41
                    obtain ⟨e42, g42⟩ : a.tmps[42]? = some (vs 27) ∧ vs 27 = .int .i64 (k : Int) := hn 27 (by decide)
                    rw [g42] at e42
                    clear g42
                    clear hn ho hu
                    have i1 := HA.out.1
                    have i2 := HA.out.2
                    go_simp
                    exact hK _ _ (keeps_refl _) hI rfl
                  · intro _ a w1 vs hI ho hn hu K hK
                    obtain ⟨e43, g43⟩ : a.tmps[43]? = some (vs 28) ∧ vs 28 = .pointer (some ⟨b1, o1 + k * 3, none⟩) := hn 28 (by decide)
                    rw [g43] at e43
                    clear g43
                    clear hn ho hu
                    go_simp
                    exact hK _ _ (keeps_refl _) hI rfl
                  · intro _ a w1 vs hI ho hn hu K hK
                    obtain ⟨e44, g44⟩ : a.tmps[44]? = some (vs 29) ∧ vs 29 = .pointer (some ⟨b1, o1 + k * 3 + 2, none⟩) := hn 29 (by decide)
                    rw [g44] at e44
                    clear g44
                    clear hn ho hu
                    have c0 := keeps_cell hI T2.out
                    go_simp
                    exact hK _ _ (keeps_refl _) hI rfl
                  · intro _ a w1 vs hI ho hn hu K hK
                    obtain ⟨e45, g45⟩ : a.tmps[45]? = some (vs 30) ∧ vs 30 = .string T := hn 30 (by decide)
                    rw [g45] at e45
                    clear g45
                    clear hn ho hu
                    go_simp
                    exact hK _ _ (keeps_refl _) hI rfl
                  · intro _ a w1 vs hI ho hn hu K hK
                    obtain ⟨e46, g46⟩ : a.tmps[46]? = some (vs 31) ∧ vs 31 = .int .i64 (T.size : Int) := hn 31 (by decide)
                    rw [g46] at e46
                    clear g46
                    clear hn ho hu
                    have q1 := HBG.out
                    go_simp
                    exact hK _ _ (keeps_refl _) hI rfl
                  · intro _ a w1 vs hI ho hn hu K hK
                    obtain ⟨e40, g40⟩ : a.tmps[40]? = some (vs 25) ∧ vs 25 = .bool false := hn 25 (by decide)
                    rw [g40] at e40
                    clear g40
                    obtain ⟨e47, g47⟩ : a.tmps[47]? = some (vs 32) ∧ vs 32 = .bool false := hn 32 (by decide)
                    rw [g47] at e47
                    clear g47
                    clear hn ho hu
                    go_simp
                    exact hK _ _ (keeps_refl _) hI rfl
                  · intro _ a w1 vs hI ho hn hu K hK
                    obtain ⟨e48, g48⟩ : a.tmps[48]? = some (vs 33) ∧ vs 33 = .bool false := hn 33 (by decide)
                    rw [g48] at e48
                    clear g48
                    clear hn ho hu
                    go_simp
                    exact hK _ _ (keeps_refl _) hI rfl
                  · intro _ a w1 vs hI ho hn hu K hK
                    have e0 : a.tmps[0]? = some (.slice (some ⟨b1, o1, none⟩) n q) := ho 0 rfl
                    clear hn ho hu
                    go_simp
                    exact hK _ _ (keeps_refl _) hI rfl
                  · intro _ a w1 vs hI ho hn hu K hK
                    have e3 : a.tmps[3]? = some (.int .i64 (k : Int)) := ho 3 rfl
                    clear hn ho hu
                    go_simp
                    exact hK _ _ (keeps_refl _) hI rfl
                  · intro _ a w1 vs hI ho hn hu K hK
                    obtain ⟨e50, g50⟩ : a.tmps[50]? = some (vs 35) ∧ vs 35 = .slice (some ⟨b1, o1, none⟩) n q := hn 35 (by decide)
                    rw [g50] at e50
                    clear g50
                    obtain ⟨e51, g51⟩ : a.tmps[51]? = some (vs 36) ∧ vs 36 = .int .i64 (k : Int) := hn 36 (by decide)
                    rw [g51] at e51
                    clear g51
                    clear hn ho hu
                    have i1 := HA.out.1
                    have i2 := HA.out.2
                    go_simp
                    exact hK _ _ (keeps_refl _) hI rfl
                  · intro _ a w1 vs hI ho hn hu K hK
                    obtain ⟨e52, g52⟩ : a.tmps[52]? = some (vs 37) ∧ vs 37 = .pointer (some ⟨b1, o1 + k * 3, none⟩) := hn 37 (by decide)
                    rw [g52] at e52
                    clear g52
                    clear hn ho hu
                    go_simp
                    exact hK _ _ (keeps_refl _) hI rfl
                  · intro _ a w1 vs hI ho hn hu K hK
                    obtain ⟨e53, g53⟩ : a.tmps[53]? = some (vs 38) ∧ vs 38 = .pointer (some ⟨b1, o1 + k * 3 + 1, none⟩) := hn 38 (by decide)
                    rw [g53] at e53
                    clear g53
                    clear hn ho hu
                    have c0 := keeps_cell hI D1.out
                    go_simp
                    exact hK _ _ (keeps_refl _) hI rfl
                  · intro _ a w1 vs hI ho hn hu K hK
                    obtain ⟨e54, g54⟩ : a.tmps[54]? = some (vs 39) ∧ vs 39 = .bool true := hn 39 (by decide)
                    rw [g54] at e54
                    clear g54
                    clear hn ho hu
                    go_simp
                    exact hK _ _ (keeps_refl _) hI rfl
                  · intro _ a w1 vs hI ho hn hu K hK
                    have e0 : a.tmps[0]? = some (.slice (some ⟨b1, o1, none⟩) n q) := ho 0 rfl
                    clear hn ho hu
                    go_simp
                    exact hK _ _ (keeps_refl _) hI rfl
                  · intro _ a w1 vs hI ho hn hu K hK
                    have e3 : a.tmps[3]? = some (.int .i64 (k : Int)) := ho 3 rfl
                    clear hn ho hu
                    go_simp
                    exact hK _ _ (keeps_refl _) hI rfl
                  · intro _ a w1 vs hI ho hn hu K hK
                    obtain ⟨e56, g56⟩ : a.tmps[56]? = some (vs 41) ∧ vs 41 = .slice (some ⟨b1, o1, none⟩) n q := hn 41 (by decide)
                    rw [g56] at e56
                    clear g56
                    obtain ⟨e57, g57⟩ : a.tmps[57]? = some (vs 42) ∧ vs 42 = .int .i64 (k : Int) := hn 42 (by decide)
                    rw [g57] at e57
                    clear g57
                    clear hn ho hu
                    have i1 := HA.out.1
                    have i2 := HA.out.2
                    go_simp
                    exact hK _ _ (keeps_refl _) hI rfl
                  · intro _ a w1 vs hI ho hn hu K hK
                    obtain ⟨e58, g58⟩ : a.tmps[58]? = some (vs 43) ∧ vs 43 = .pointer (some ⟨b1, o1 + k * 3, none⟩) := hn 43 (by decide)
                    rw [g58] at e58
                    clear g58
                    clear hn ho hu
                    go_simp
                    exact hK _ _ (keeps_refl _) hI rfl
                  · intro _ a w1 vs hI ho hn hu K hK
                    obtain ⟨e59, g59⟩ : a.tmps[59]? = some (vs 44) ∧ vs 44 = .pointer (some ⟨b1, o1 + k * 3 + 2, none⟩) := hn 44 (by decide)
                    rw [g59] at e59
                    clear g59
                    clear hn ho hu
                    have c0 := keeps_cell hI T2.out
                    go_simp
                    exact hK _ _ (keeps_refl _) hI rfl
                  · intro _ a w1 vs hI ho hn hu K hK
                    obtain ⟨e60, g60⟩ : a.tmps[60]? = some (vs 45) ∧ vs 45 = .string T := hn 45 (by decide)
                    rw [g60] at e60
                    clear g60
                    clear hn ho hu
                    have q1 := HTE.out.1
                    have q2 := HTE.out.2
                    go_simp
                    exact hK _ _ (keeps_refl _) hI rfl
                  · intro _ a w1 vs hI ho hn hu K hK
                    obtain ⟨e55, g55⟩ : a.tmps[55]? = some (vs 40) ∧ vs 40 = .bool true := hn 40 (by decide)
                    rw [g55] at e55
                    clear g55
                    obtain ⟨e61, g61⟩ : a.tmps[61]? = some (vs 46) ∧ vs 46 = .bool false := hn 46 (by decide)
                    rw [g61] at e61
                    clear g61
                    clear hn ho hu
                    go_simp
                    exact hK _ _ (keeps_refl _) hI rfl
                  · intro _ a w1 vs hI ho hn hu K hK
                    obtain ⟨e49, g49⟩ : a.tmps[49]? = some (vs 34) ∧ vs 34 = .bool false := hn 34 (by decide)
                    rw [g49] at e49
                    clear g49
                    obtain ⟨e62, g62⟩ : a.tmps[62]? = some (vs 47) ∧ vs 47 = .bool false := hn 47 (by decide)
                    rw [g62] at e62
                    clear g62
                    clear hn ho hu
                    go_simp
                    exact hK _ _ (keeps_refl _) hI rfl
                · intro vs wE hI hG
                  have eL48 : vs 48 = .bool false := hG 48 (by decide)
                  have HKE := Lib.hid hI
                  clear hG hI
                  simp only [setAll, Nat.zero_add, Nat.reduceAdd, List.setIfInBounds_toArray, List.set_cons_zero, List.set_cons_succ, eL48]
                  clear eL48
                  generalize vs 0 = y0 at *
                  generalize vs 1 = y1 at *
                  generalize vs 2 = y2 at *
                  generalize vs 3 = y3 at *
                  generalize vs 4 = y4 at *
                  generalize vs 5 = y5 at *
                  generalize vs 6 = y6 at *
                  generalize vs 7 = y7 at *
                  generalize vs 8 = y8 at *
                  generalize vs 9 = y9 at *
                  generalize vs 10 = y10 at *
                  generalize vs 11 = y11 at *
                  generalize vs 12 = y12 at *
                  generalize vs 13 = y13 at *
                  generalize vs 14 = y14 at *
                  generalize vs 15 = y15 at *
                  generalize vs 16 = y16 at *
                  generalize vs 17 = y17 at *
                  generalize vs 18 = y18 at *
                  generalize vs 19 = y19 at *
                  generalize vs 20 = y20 at *
                  generalize vs 21 = y21 at *
                  generalize vs 22 = y22 at *
                  generalize vs 23 = y23 at *
                  generalize vs 24 = y24 at *
                  generalize vs 25 = y25 at *
                  generalize vs 26 = y26 at *
                  generalize vs 27 = y27 at *
                  generalize vs 28 = y28 at *
                  generalize vs 29 = y29 at *
                  generalize vs 30 = y30 at *
                  generalize vs 31 = y31 at *
                  generalize vs 32 = y32 at *
                  generalize vs 33 = y33 at *
                  generalize vs 34 = y34 at *
                  generalize vs 35 = y35 at *
                  generalize vs 36 = y36 at *
                  generalize vs 37 = y37 at *
                  generalize vs 38 = y38 at *
                  generalize vs 39 = y39 at *
                  generalize vs 40 = y40 at *
                  generalize vs 41 = y41 at *
                  generalize vs 42 = y42 at *
                  generalize vs 43 = y43 at *
                  generalize vs 44 = y44 at *
                  generalize vs 45 = y45 at *
                  generalize vs 46 = y46 at *
                  generalize vs 47 = y47 at *
                  have HKW := Lib.hid (hK.out.trans HKE.out)
                  have d0 := keeps_cell HKE.out P0.out
                  have HFW := Lib.hid (RecAt.keeps H.out HKW.out)
                  clear HKE
                  go_wp2_with fail
                  refine Calls.mono (HAB.out _) ?_
                  rintro e wz ⟨rfl, rfl⟩
                  cases I with
                  | false =>
                    have HN3 := Lib.hid (HN2.out (by rw [HOK.out]; rfl))
                    go_wp2_with fail
                    refine ⟨?_, by simp [intOf]; omega⟩
                    first | exact ⟨k + 1, by omega, by go_num, HN3, HKW⟩ | ((repeat apply Exists.intro); exact ⟨⟨k + 1, by omega, by go_num, HN3, HKW⟩, rfl⟩)
                  | true =>
                    have HDI := Lib.hid (fun wx (hf : FilesAt wx.heap (.slice (some ⟨b1, o1, none⟩) n q) l) => rdir_any _ l U wx hf)
                    generalize dirIn l U = y at *
                    go_wp2_with fail
                    refine Calls.mono (HDI.out _ HFW.out) ?_
                    rintro e wy ⟨rfl, rfl⟩
                    cases y with
                    | false =>
                      have HT2 := Lib.hid (HF.out (by rw [HOK.out]; rfl))
                      go_wp2_with fail
                      go_ret
                      exact ⟨by rw [HT2.out]; rfl, HKW.out⟩
                    | true =>
                      have HN3 := Lib.hid (HN2.out (by rw [HOK.out]; rfl))
                      go_wp2_with fail
                      refine ⟨?_, by simp [intOf]; omega⟩
                      first | exact ⟨k + 1, by omega, by go_num, HN3, HKW⟩ | ((repeat apply Exists.intro); exact ⟨⟨k + 1, by omega, by go_num, HN3, HKW⟩, rfl⟩)
              · have HTE := Lib.hid (full_facts ht)
                have HT2 := Lib.hid (HF.out (by rw [HWK.out]; simp [ht]))
                clear hz hz2 ht
                go_wp2_with fail
                refine wp_region_stage [15, 16, 17, 18, 19, 20, 21, 22, 23, 24, 25, 26, 27, 28, 29, 30, 31, 32, 33, 34, 35, 36, 37, 38, 39, 40, 41, 42, 43, 44, 45, 46, 47, 48, 49, 50, 51, 52, 53, 54, 55, 56, 57, 58, 59, 60, 61, 62, 63] [[], [], [0, 1], [2], [3], [4], [5], [6], [7], [7, 8], [7, 9], [10], [10], [10], [10], [10], [10], [10], [10], [10], [10], [10], [10], [7, 10, 22], [7, 23], [24], [25], [25], [25, 26, 27], [25, 28], [25, 29], [25, 30], [25, 31], [25, 32], [33], [34], [34], [34, 35, 36], [34, 37], [34, 38], [34, 39], [40], [40], [40, 41, 42], [40, 43], [40, 44], [40, 45], [34, 40, 46], [34, 47]] [] [0, 0, 0, 0, 0, 0, 0, 0, 0, 0, 0, 0, 0, 0, 0, 0, 0, 0, 0, 0, 0, 0, 0, 0, 0, 0, 0, 0, 0, 0, 0, 0, 0, 0, 0, 0, 0, 0, 0, 0, 0, 0, 0, 0, 0, 0, 0, 0, 0] [11, 12, 13, 14, 15, 16, 17, 18, 19, 20, 21, 22] (fun i v _ => rtrZe b1 o1 n q k kp P Pp T i v) (fun w w' => Keeps w w') (fun _ _ w' => Keeps wr w') (by kernel_rfl) (by kernel_rfl) (by kernel_rfl) (by kernel_rfl) (by kernel_rfl) (by kernel_rfl) (by kernel_rfl) ?_ ?_ ?_ ?_ ?_ ?_ ?_
                · exact fun i v w w' c h => h
                · exact fun w => keeps_refl w
                · exact fun i s vs w _ h => h
                · refine ⟨?_, ?_, ?_, ?_, ?_, ?_, ?_, ?_, ?_, ?_, ?_, ?_, ?_, ?_, ?_, ?_, ?_, ?_, ?_, ?_, ?_, ?_, ?_, ?_, ?_, ?_, ?_, ?_, ?_, ?_, ?_, ?_, ?_, ?_, ?_, ?_, ?_, ?_, ?_, ?_, ?_, ?_, ?_, ?_, ?_, ?_, ?_, ?_, ?_, trivial⟩
                  · exact fun g b h => by (cases h)
                  · exact fun g b h => by (cases h)
                  · exact fun g b h => by (cases h)
                  · exact fun g b h => by (cases h)
                  · exact fun g b h => by (cases h)
                  · exact fun g b h => by (cases h)
                  · exact fun g b h => by (cases h)
                  · exact fun g b h => by (cases h)
                  · exact fun g b h => by (cases h; exact ⟨by decide, fun v w h => h⟩)
                  · exact fun g b h => by (cases h; exact ⟨by decide, fun v w h => h⟩)
                  · exact fun g b h => by (cases h; exact ⟨by decide, fun v w h => h⟩)
                  · exact ⟨⟨_, _, rfl, by decide, fun v w h => by (first | (change v = _ at h; subst h; intro x; cases x) | skip)⟩, fun w => rfl⟩
                  · exact ⟨⟨_, _, rfl, by decide, fun v w h => by (first | (change v = _ at h; subst h; intro x; cases x) | skip)⟩, fun w => rfl⟩
                  · exact ⟨⟨_, _, rfl, by decide, fun v w h => by (first | (change v = _ at h; subst h; intro x; cases x) | skip)⟩, fun w => rfl⟩
                  · exact ⟨⟨_, _, rfl, by decide, fun v w h => by (first | (change v = _ at h; subst h; intro x; cases x) | skip)⟩, fun w => rfl⟩
                  · exact ⟨⟨_, _, rfl, by decide, fun v w h => by (first | (change v = _ at h; subst h; intro x; cases x) | skip)⟩, fun w => rfl⟩
                  · exact ⟨⟨_, _, rfl, by decide, fun v w h => by (first | (change v = _ at h; subst h; intro x; cases x) | skip)⟩, fun w => rfl⟩
                  · exact ⟨⟨_, _, rfl, by decide, fun v w h => by (first | (change v = _ at h; subst h; intro x; cases x) | skip)⟩, fun w => rfl⟩
                  · exact ⟨⟨_, _, rfl, by decide, fun v w h => by (first | (change v = _ at h; subst h; intro x; cases x) | skip)⟩, fun w => rfl⟩
                  · exact ⟨⟨_, _, rfl, by decide, fun v w h => by (first | (change v = _ at h; subst h; intro x; cases x) | skip)⟩, fun w => rfl⟩
                  · exact ⟨⟨_, _, rfl, by decide, fun v w h => by (first | (change v = _ at h; subst h; intro x; cases x) | skip)⟩, fun w => rfl⟩
                  · exact ⟨⟨_, _, rfl, by decide, fun v w h => by (first | (change v = _ at h; subst h; intro x; cases x) | skip)⟩, fun w => rfl⟩
                  · exact ⟨⟨_, _, rfl, by decide, fun v w h => by (first | (change v = _ at h; subst h; intro x; cases x) | skip)⟩, fun w => rfl⟩
                  · exact fun g b h => by (cases h; exact ⟨by decide, fun v w h => h⟩)
                  · exact fun g b h => by (cases h)
                  · exact fun g b h => by (cases h)
                  · exact fun g b h => by (cases h; exact ⟨by decide, fun v w h => h⟩)
                  · exact fun g b h => by (cases h; exact ⟨by decide, fun v w h => h⟩)
                  · exact fun g b h => by (cases h; exact ⟨by decide, fun v w h => h⟩)
                  · exact fun g b h => by (cases h; exact ⟨by decide, fun v w h => h⟩)
                  · exact fun g b h => by (cases h; exact ⟨by decide, fun v w h => h⟩)
                  · exact fun g b h => by (cases h; exact ⟨by decide, fun v w h => h⟩)
                  · exact fun g b h => by (cases h; exact ⟨by decide, fun v w h => h⟩)
                  · exact fun g b h => by (cases h)
                  · exact fun g b h => by (cases h)
                  · exact fun g b h => by (cases h; exact ⟨by decide, fun v w h => h⟩)
                  · exact fun g b h => by (cases h; exact ⟨by decide, fun v w h => h⟩)
                  · exact fun g b h => by (cases h; exact ⟨by decide, fun v w h => h⟩)
                  · exact fun g b h => by (cases h; exact ⟨by decide, fun v w h => h⟩)
                  · exact fun g b h => by (cases h; exact ⟨by decide, fun v w h => h⟩)
                  · exact fun g b h => by (cases h; exact ⟨by decide, fun v w h => h⟩)
                  · exact fun g b h => by (cases h; exact ⟨by decide, fun v w h => h⟩)
                  · exact fun g b h => by (cases h; exact ⟨by decide, fun v w h => h⟩)
                  · exact fun g b h => by (cases h; exact ⟨by decide, fun v w h => h⟩)
                  · exact fun g b h => by (cases h; exact ⟨by decide, fun v w h => h⟩)
                  · exact fun g b h => by (cases h; exact ⟨by decide, fun v w h => h⟩)
                  · exact fun g b h => by (cases h; exact ⟨by decide, fun v w h => h⟩)
                  · exact fun g b h => by (cases h; exact ⟨by decide, fun v w h => h⟩)
                  · exact fun g b h => by (cases h)
                · exact fun _ _ => keeps_refl wr
                · refine ⟨?_, ?_, ?_, ?_, ?_, ?_, ?_, ?_, ?_, ?_, ?_, ?_, ?_, ?_, ?_, ?_, ?_, ?_, ?_, ?_, ?_, ?_, ?_, ?_, ?_, ?_, ?_, ?_, ?_, ?_, ?_, ?_, ?_, ?_, ?_, ?_, ?_, ?_, ?_, ?_, ?_, ?_, ?_, ?_, ?_, ?_, ?_, ?_, ?_, trivial⟩
                  · intro _ a w1 vs hI ho hn hu K hK
                    have e0 : a.tmps[0]? = some (.slice (some ⟨b1, o1, none⟩) n q) := ho 0 rfl
                    clear hn ho hu
                    go_simp
                    exact hK _ _ (keeps_refl _) hI rfl
                  · intro _ a w1 vs hI ho hn hu K hK
                    have e3 : a.tmps[3]? = some (.int .i64 (k : Int)) := ho 3 rfl
                    clear hn ho hu
                    go_simp
                    exact hK _ _ (keeps_refl _) hI rfl
                  · intro _ a w1 vs hI ho hn hu K hK
                    obtain ⟨e15, g15⟩ : a.tmps[15]? = some (vs 0) ∧ vs 0 = .slice (some ⟨b1, o1, none⟩) n q := hn 0 (by decide)
                    rw [g15] at e15
                    clear g15
                    obtain ⟨e16, g16⟩ : a.tmps[16]? = some (vs 1) ∧ vs 1 = .int .i64 (k : Int) := hn 1 (by decide)
                    rw [g16] at e16
                    clear g16
                    clear hn ho hu
                    have i1 := HA.out.1
                    have i2 := HA.out.2
                    go_simp
                    exact hK _ _ (keeps_refl _) hI rfl
                  · intro _ a w1 vs hI ho hn hu K hK
                    obtain ⟨e17, g17⟩ : a.tmps[17]? = some (vs 2) ∧ vs 2 = .pointer (some ⟨b1, o1 + k * 3, none⟩) := hn 2 (by decide)
                    rw [g17] at e17
                    clear g17
                    clear hn ho hu
                    go_simp
                    exact hK _ _ (keeps_refl _) hI rfl
                  · intro _ a w1 vs hI ho hn hu K hK
                    obtain ⟨e18, g18⟩ : a.tmps[18]? = some (vs 3) ∧ vs 3 = .pointer (some ⟨b1, o1 + k * 3, none⟩) := hn 3 (by decide)
                    rw [g18] at e18
                    clear g18
                    clear hn ho hu
                    have c0 := keeps_cell hI P0.out
                    go_simp
                    exact hK _ _ (keeps_refl _) hI rfl
                  · intro _ a w1 vs hI ho hn hu K hK
                    obtain ⟨e19, g19⟩ : a.tmps[19]? = some (vs 4) ∧ vs 4 = .string P := hn 4 (by decide)
                    rw [g19] at e19
                    clear g19
                    clear hn ho hu
                    go_simp
                    refine Calls.mono (HMY.out _) ?_
                    rintro e w' ⟨rfl, hk2⟩
                    go_simp
                    exact hK _ _ hk2 (Keeps.trans hI hk2) rfl
                  · intro _ a w1 vs hI ho hn hu K hK
                    obtain ⟨e20, g20⟩ : a.tmps[20]? = some (vs 5) ∧ vs 5 = .bool true := hn 5 (by decide)
                    rw [g20] at e20
                    clear g20
                    clear hn ho hu
                    go_simp
                    exact hK _ _ (keeps_refl _) hI rfl
                  · intro _ a w1 vs hI ho hn hu K hK
                    obtain ⟨e21, g21⟩ : a.tmps[21]? = some (vs 6) ∧ vs 6 = .bool false := hn 6 (by decide)
                    rw [g21] at e21
                    clear g21
                    clear hn ho hu
                    go_simp
                    exact hK _ _ (keeps_refl _) hI rfl
                  · intro _ a w1 vs hI ho hn hu K hK
                    have e3 : a.tmps[3]? = some (.int .i64 (k : Int)) := ho 3 rfl
                    clear hn ho hu
                    go_simp
                    exact hK _ _ (keeps_refl _) hI rfl
                  · intro _ a w1 vs hI ho hn hu K hK
                    obtain ⟨e23, g23⟩ : a.tmps[23]? = some (vs 8) ∧ vs 8 = .int .i64 (k : Int) := hn 8 (by decide)
                    rw [g23] at e23
                    clear g23
                    clear hn ho hu
                    have q1 := HG.out.1
                    have q2 := HG.out.2
                    go_simp
                    exact hK _ _ (keeps_refl _) hI rfl
                  · intro _ a w1 vs hI ho hn hu K hK
                    obtain ⟨e24, g24⟩ : a.tmps[24]? = some (vs 9) ∧ vs 9 = .bool false := hn 9 (by decide)
                    rw [g24] at e24
                    clear g24
                    clear hn ho hu
                    go_simp
                    exact hK _ _ (keeps_refl _) hI rfl
                  · intro hs; cases hs
                  · intro hs; cases hs
                  · intro hs; cases hs
                  · intro hs; cases hs
                  · intro hs; cases hs
                  · intro hs; cases hs
                  · intro hs; cases hs
                  · intro hs; cases hs
                  · intro hs; cases hs
                  · intro hs; cases hs
                  · intro hs; cases hs
                  · intro hs; cases hs
                  · intro _ a w1 vs hI ho hn hu K hK
                    obtain ⟨e25, g25⟩ : a.tmps[25]? = some (vs 10) ∧ vs 10 = .bool false := hn 10 (by decide)
                    rw [g25] at e25
                    clear g25
                    obtain ⟨e37, g37⟩ : a.tmps[37]? = some (vs 22) ∧ vs 22 = undef := hn 22 (by decide)
                    rw [g37] at e37
                    clear g37
                    clear hn ho hu
                    go_simp
                    exact hK _ _ (keeps_refl _) hI rfl
                  · intro _ a w1 vs hI ho hn hu K hK
                    obtain ⟨e22, g22⟩ : a.tmps[22]? = some (vs 7) ∧ vs 7 = .bool false := hn 7 (by decide)
                    rw [g22] at e22
                    clear g22
                    obtain ⟨e38, g38⟩ : a.tmps[38]? = some (vs 23) ∧ vs 23 = .bool false := hn 23 (by decide)
                    rw [g38] at e38
                    clear g38
                    clear hn ho hu
                    go_simp
                    exact hK _ _ (keeps_refl _) hI rfl
                  · intro _ a w1 vs hI ho hn hu K hK
                    obtain ⟨e39, g39⟩ : a.tmps[39]? = some (vs 24) ∧ vs 24 = .bool false := hn 24 (by decide)
                    rw [g39] at e39
                    clear g39
                    clear hn ho hu
                    go_simp
                    exact hK _ _ (keeps_refl _) hI rfl
                  · intro _ a w1 vs hI ho hn hu K hK
                    have e0 : a.tmps[0]? = some (.slice (some ⟨b1, o1, none⟩) n q) := ho 0 rfl
                    clear hn ho hu
                    go_simp
                    exact hK _ _ (keeps_refl _) hI rfl
                  · intro _ a w1 vs hI ho hn hu K hK
                    have e3 : a.tmps[3]? = some (.int .i64 (k : Int)) := ho 3 rfl
                    clear hn ho hu
                    go_simp
                    exact hK _ _ (keeps_refl _) hI rfl
                  · intro _ a w1 vs hI ho hn hu K hK
                    obtain ⟨e41, g41⟩ : a.tmps[41]? = some (vs 26) ∧ vs 26 = .slice (some ⟨b1, o1, none⟩) n q := hn 26 (by decide)
                    rw [g41] at e41
                    clear g41
                    obtain ⟨e42, g42⟩ : a.tmps[42]? = some (vs 27) ∧ vs 27 = .int .i64 (k : Int) := hn 27 (by decide)
                    rw [g42] at e42
                    clear g42
                    clear hn ho hu
                    have i1 := HA.out.1
                    have i2 := HA.out.2
                    go_simp
                    exact hK _ _ (keeps_refl _) hI rfl
                  · intro _ a w1 vs hI ho hn hu K hK
                    obtain ⟨e43, g43⟩ : a.tmps[43]? = some (vs 28) ∧ vs 28 = .pointer (some ⟨b1, o1 + k * 3, none⟩) := hn 28 (by decide)
                    rw [g43] at e43
                    clear g43
                    clear hn ho hu
                    go_simp
                    exact hK _ _ (keeps_refl _) hI rfl
                  · intro _ a w1 vs hI ho hn hu K hK
                    obtain ⟨e44, g44⟩ : a.tmps[44]? = some (vs 29) ∧ vs 29 = .pointer (some ⟨b1, o1 + k * 3 + 2, none⟩) := hn 29 (by decide)
                    rw [g44] at e44
                    clear g44
                    clear hn ho hu
                    have c0 := keeps_cell hI T2.out
                    go_simp
                    exact hK _ _ (keeps_refl _) hI rfl
                  · intro _ a w1 vs hI ho hn hu K hK
                    obtain ⟨e45, g45⟩ : a.tmps[45]? = some (vs 30) ∧ vs 30 = .string T := hn 30 (by decide)
                    rw [g45] at e45
                    clear g45
                    clear hn ho hu
                    go_simp
                    exact hK _ _ (keeps_refl _) hI rfl
                  · intro _ a w1 vs hI ho hn hu K hK
                    obtain ⟨e46, g46⟩ : a.tmps[46]? = some (vs 31) ∧ vs 31 = .int .i64 (T.size : Int) := hn 31 (by decide)
                    rw [g46] at e46
                    clear g46
                    clear hn ho hu
                    have q1 := HBG.out
                    go_simp
                    exact hK _ _ (keeps_refl _) hI rfl
                  · intro _ a w1 vs hI ho hn hu K hK
                    obtain ⟨e40, g40⟩ : a.tmps[40]? = some (vs 25) ∧ vs 25 = .bool false := hn 25 (by decide)
                    rw [g40] at e40
                    clear g40
                    obtain ⟨e47, g47⟩ : a.tmps[47]? = some (vs 32) ∧ vs 32 = .bool false := hn 32 (by decide)
                    rw [g47] at e47
                    clear g47
                    clear hn ho hu
                    go_simp
                    exact hK _ _ (keeps_refl _) hI rfl
                  · intro _ a w1 vs hI ho hn hu K hK
                    obtain ⟨e48, g48⟩ : a.tmps[48]? = some (vs 33) ∧ vs 33 = .bool false := hn 33 (by decide)
                    rw [g48] at e48
                    clear g48
                    clear hn ho hu
                    go_simp
                    exact hK _ _ (keeps_refl _) hI rfl
                  · intro _ a w1 vs hI ho hn hu K hK
                    have e0 : a.tmps[0]? = some (.slice (some ⟨b1, o1, none⟩) n q) := ho 0 rfl
                    clear hn ho hu
                    go_simp
                    exact hK _ _ (keeps_refl _) hI rfl
                  · intro _ a w1 vs hI ho hn hu K hK
                    have e3 : a.tmps[3]? = some (.int .i64 (k : Int)) := ho 3 rfl
                    clear hn ho hu
                    go_simp
                    exact hK _ _ (keeps_refl _) hI rfl
                  · intro _ a w1 vs hI ho hn hu K hK
                    obtain ⟨e50, g50⟩ : a.tmps[50]? = some (vs 35) ∧ vs 35 = .slice (some ⟨b1, o1, none⟩) n q := hn 35 (by decide)
                    rw [g50] at e50
                    clear g50
                    obtain ⟨e51, g51⟩ : a.tmps[51]? = some (vs 36) ∧ vs 36 = .int .i64 (k : Int) := hn 36 (by decide)
                    rw [g51] at e51
                    clear g51
                    clear hn ho hu
                    have i1 := HA.out.1
                    have i2 := HA.out.2
                    go_simp
                    exact hK _ _ (keeps_refl _) hI rfl
                  · intro _ a w1 vs hI ho hn hu K hK
                    obtain ⟨e52, g52⟩ : a.tmps[52]? = some (vs 37) ∧ vs 37 = .pointer (some ⟨b1, o1 + k * 3, none⟩) := hn 37 (by decide)
                    rw [g52] at e52
                    clear g52
                    clear hn ho hu
                    go_simp
                    exact hK _ _ (keeps_refl _) hI rfl
                  · intro _ a w1 vs hI ho hn hu K hK
                    obtain ⟨e53, g53⟩ : a.tmps[53]? = some (vs 38) ∧ vs 38 = .pointer (some ⟨b1, o1 + k * 3 + 1, none⟩) := hn 38 (by decide)
                    rw [g53] at e53
                    clear g53
                    clear hn ho hu
                    have c0 := keeps_cell hI D1.out
                    go_simp
                    exact hK _ _ (keeps_refl _) hI rfl
                  · intro _ a w1 vs hI ho hn hu K hK
                    obtain ⟨e54, g54⟩ : a.tmps[54]? = some (vs 39) ∧ vs 39 = .bool true := hn 39 (by decide)
                    rw [g54] at e54
                    clear g54
                    clear hn ho hu
                    go_simp
                    exact hK _ _ (keeps_refl _) hI rfl
                  · intro _ a w1 vs hI ho hn hu K hK
                    have e0 : a.tmps[0]? = some (.slice (some ⟨b1, o1, none⟩) n q) := ho 0 rfl
                    clear hn ho hu
                    go_simp
                    exact hK _ _ (keeps_refl _) hI rfl
                  · intro _ a w1 vs hI ho hn hu K hK
                    have e3 : a.tmps[3]? = some (.int .i64 (k : Int)) := ho 3 rfl
                    clear hn ho hu
                    go_simp
                    exact hK _ _ (keeps_refl _) hI rfl
                  · intro _ a w1 vs hI ho hn hu K hK
                    obtain ⟨e56, g56⟩ : a.tmps[56]? = some (vs 41) ∧ vs 41 = .slice (some ⟨b1, o1, none⟩) n q := hn 41 (by decide)
                    rw [g56] at e56
                    clear g56
                    obtain ⟨e57, g57⟩ : a.tmps[57]? = some (vs 42) ∧ vs 42 = .int .i64 (k : Int) := hn 42 (by decide)
                    rw [g57] at e57
                    clear g57
                    clear hn ho hu
                    have i1 := HA.out.1
                    have i2 := HA.out.2
                    go_simp
                    exact hK _ _ (keeps_refl _) hI rfl
                  · intro _ a w1 vs hI ho hn hu K hK
                    obtain ⟨e58, g58⟩ : a.tmps[58]? = some (vs 43) ∧ vs 43 = .pointer (some ⟨b1, o1 + k * 3, none⟩) := hn 43 (by decide)
                    rw [g58] at e58
                    clear g58
                    clear hn ho hu
                    go_simp
                    exact hK _ _ (keeps_refl _) hI rfl
                  · intro _ a w1 vs hI ho hn hu K hK
                    obtain ⟨e59, g59⟩ : a.tmps[59]? = some (vs 44) ∧ vs 44 = .pointer (some ⟨b1, o1 + k * 3 + 2, none⟩) := hn 44 (by decide)
                    rw [g59] at e59
                    clear g59
                    clear hn ho hu
                    have c0 := keeps_cell hI T2.out
                    go_simp
                    exact hK _ _ (keeps_refl _) hI rfl
                  · intro _ a w1 vs hI ho hn hu K hK
                    obtain ⟨e60, g60⟩ : a.tmps[60]? = some (vs 45) ∧ vs 45 = .string T := hn 45 (by decide)
                    rw [g60] at e60
                    clear g60
                    clear hn ho hu
                    have q1 := HTE.out.1
                    have q2 := HTE.out.2
                    go_simp
                    exact hK _ _ (keeps_refl _) hI rfl
                  · intro _ a w1 vs hI ho hn hu K hK
                    obtain ⟨e55, g55⟩ : a.tmps[55]? = some (vs 40) ∧ vs 40 = .bool true := hn 40 (by decide)
                    rw [g55] at e55
                    clear g55
                    obtain ⟨e61, g61⟩ : a.tmps[61]? = some (vs 46) ∧ vs 46 = .bool true := hn 46 (by decide)
                    rw [g61] at e61
                    clear g61
                    clear hn ho hu
                    go_simp
                    exact hK _ _ (keeps_refl _) hI rfl
                  · intro _ a w1 vs hI ho hn hu K hK
                    obtain ⟨e49, g49⟩ : a.tmps[49]? = some (vs 34) ∧ vs 34 = .bool false := hn 34 (by decide)
                    rw [g49] at e49
                    clear g49
                    obtain ⟨e62, g62⟩ : a.tmps[62]? = some (vs 47) ∧ vs 47 = .bool true := hn 47 (by decide)
                    rw [g62] at e62
                    clear g62
                    clear hn ho hu
                    go_simp
                    exact hK _ _ (keeps_refl _) hI rfl
                · intro vs wE hI hG
                  have eL48 : vs 48 = .bool true := hG 48 (by decide)
                  have HKE := Lib.hid hI
                  clear hG hI
                  simp only [setAll, Nat.zero_add, Nat.reduceAdd, List.setIfInBounds_toArray, List.set_cons_zero, List.set_cons_succ, eL48]
                  clear eL48
                  generalize vs 0 = y0 at *
                  generalize vs 1 = y1 at *
                  generalize vs 2 = y2 at *
                  generalize vs 3 = y3 at *
                  generalize vs 4 = y4 at *
                  generalize vs 5 = y5 at *
                  generalize vs 6 = y6 at *
                  generalize vs 7 = y7 at *
                  generalize vs 8 = y8 at *
                  generalize vs 9 = y9 at *
                  generalize vs 10 = y10 at *
                  generalize vs 11 = y11 at *
                  generalize vs 12 = y12 at *
                  generalize vs 13 = y13 at *
                  generalize vs 14 = y14 at *
                  generalize vs 15 = y15 at *
                  generalize vs 16 = y16 at *
                  generalize vs 17 = y17 at *
                  generalize vs 18 = y18 at *
                  generalize vs 19 = y19 at *
                  generalize vs 20 = y20 at *
                  generalize vs 21 = y21 at *
                  generalize vs 22 = y22 at *
                  generalize vs 23 = y23 at *
                  generalize vs 24 = y24 at *
                  generalize vs 25 = y25 at *
                  generalize vs 26 = y26 at *
                  generalize vs 27 = y27 at *
                  generalize vs 28 = y28 at *
                  generalize vs 29 = y29 at *
                  generalize vs 30 = y30 at *
                  generalize vs 31 = y31 at *
                  generalize vs 32 = y32 at *
                  generalize vs 33 = y33 at *
                  generalize vs 34 = y34 at *
                  generalize vs 35 = y35 at *
                  generalize vs 36 = y36 at *
                  generalize vs 37 = y37 at *
                  generalize vs 38 = y38 at *
                  generalize vs 39 = y39 at *
                  generalize vs 40 = y40 at *
                  generalize vs 41 = y41 at *
                  generalize vs 42 = y42 at *
                  generalize vs 43 = y43 at *
                  generalize vs 44 = y44 at *
                  generalize vs 45 = y45 at *
                  generalize vs 46 = y46 at *
                  generalize vs 47 = y47 at *
                  have HKW := Lib.hid (hK.out.trans HKE.out)
                  clear HKE
                  go_wp2_with fail
                  go_ret
                  exact ⟨by rw [HT2.out]; rfl, HKW.out⟩
        · have HG : Hid (decide ((0 : Int) < (k : Int)) = true ∧ decide (0 < k) = true) := ⟨decide_eq_true (by omega), decide_eq_true (by omega)⟩
          have HK0 := Lib.hid hk0
          clear hk0
          cases ls with
          | false =>
            have HT2 := Lib.hid (HF.out (by rw [HWK.out]; simp [HK0.out]))
            go_wp2_with fail
            refine wp_region_stage [15, 16, 17, 18, 19, 20, 21, 22, 23, 24, 25, 26, 27, 28, 29, 30, 31, 32, 33, 34, 35, 36, 37, 38, 39, 40, 41, 42, 43, 44, 45, 46, 47, 48, 49, 50, 51, 52, 53, 54, 55, 56, 57, 58, 59, 60, 61, 62, 63] [[], [], [0, 1], [2], [3], [4], [5], [6], [7], [7, 8], [7, 9], [10], [10], [10, 11, 12], [10, 13], [10, 14], [10], [10], [10, 17], [10, 16, 18], [10, 19], [10, 20], [10, 15, 21], [7, 10, 22], [7, 23], [24], [25], [25], [25], [25], [25], [25], [25], [25, 32], [33], [34], [34], [34], [34], [34], [34], [40], [40], [40], [40], [40], [40], [34], [34, 47]] [] [0, 0, 0, 0, 0, 0, 0, 0, 0, 0, 0, 0, 0, 0, 0, 0, 0, 0, 0, 0, 0, 0, 0, 0, 0, 0, 0, 0, 0, 0, 0, 0, 0, 0, 0, 0, 0, 0, 0, 0, 0, 0, 0, 0, 0, 0, 0, 0, 0] [26, 27, 28, 29, 30, 31, 32, 35, 36, 37, 38, 39, 40, 41, 42, 43, 44, 45, 46, 47] (fun i v _ => rtrB b1 o1 n q k kp P Pp T i v) (fun w w' => Keeps w w') (fun _ _ w' => Keeps wr w') (by kernel_rfl) (by kernel_rfl) (by kernel_rfl) (by kernel_rfl) (by kernel_rfl) (by kernel_rfl) (by kernel_rfl) ?_ ?_ ?_ ?_ ?_ ?_ ?_
            · exact fun i v w w' c h => h
            · exact fun w => keeps_refl w
            · exact fun i s vs w _ h => h
            · refine ⟨?_, ?_, ?_, ?_, ?_, ?_, ?_, ?_, ?_, ?_, ?_, ?_, ?_, ?_, ?_, ?_, ?_, ?_, ?_, ?_, ?_, ?_, ?_, ?_, ?_, ?_, ?_, ?_, ?_, ?_, ?_, ?_, ?_, ?_, ?_, ?_, ?_, ?_, ?_, ?_, ?_, ?_, ?_, ?_, ?_, ?_, ?_, ?_, ?_, trivial⟩
              · exact fun g b h => by (cases h)
              · exact fun g b h => by (cases h)
              · exact fun g b h => by (cases h)
              · exact fun g b h => by (cases h)
              · exact fun g b h => by (cases h)
              · exact fun g b h => by (cases h)
              · exact fun g b h => by (cases h)
              · exact fun g b h => by (cases h)
              · exact fun g b h => by (cases h; exact ⟨by decide, fun v w h => h⟩)
              · exact fun g b h => by (cases h; exact ⟨by decide, fun v w h => h⟩)
              · exact fun g b h => by (cases h; exact ⟨by decide, fun v w h => h⟩)
              · exact fun g b h => by (cases h; exact ⟨by decide, fun v w h => h⟩)
              · exact fun g b h => by (cases h; exact ⟨by decide, fun v w h => h⟩)
              · exact fun g b h => by (cases h; exact ⟨by decide, fun v w h => h⟩)
              · exact fun g b h => by (cases h; exact ⟨by decide, fun v w h => h⟩)
              · exact fun g b h => by (cases h; exact ⟨by decide, fun v w h => h⟩)
              · exact fun g b h => by (cases h; exact ⟨by decide, fun v w h => h⟩)
              · exact fun g b h => by (cases h; exact ⟨by decide, fun v w h => h⟩)
              · exact fun g b h => by (cases h; exact ⟨by decide, fun v w h => h⟩)
              · exact fun g b h => by (cases h; exact ⟨by decide, fun v w h => h⟩)
              · exact fun g b h => by (cases h; exact ⟨by decide, fun v w h => h⟩)
              · exact fun g b h => by (cases h; exact ⟨by decide, fun v w h => h⟩)
              · exact fun g b h => by (cases h; exact ⟨by decide, fun v w h => h⟩)
              · exact fun g b h => by (cases h; exact ⟨by decide, fun v w h => h⟩)
              · exact fun g b h => by (cases h)
              · exact fun g b h => by (cases h)
              · exact ⟨⟨_, _, rfl, by decide, fun v w h => by (first | (change v = _ at h; subst h; intro x; cases x) | skip)⟩, fun w => rfl⟩
              · exact ⟨⟨_, _, rfl, by decide, fun v w h => by (first | (change v = _ at h; subst h; intro x; cases x) | skip)⟩, fun w => rfl⟩
              · exact ⟨⟨_, _, rfl, by decide, fun v w h => by (first | (change v = _ at h; subst h; intro x; cases x) | skip)⟩, fun w => rfl⟩
              · exact ⟨⟨_, _, rfl, by decide, fun v w h => by (first | (change v = _ at h; subst h; intro x; cases x) | skip)⟩, fun w => rfl⟩
              · exact ⟨⟨_, _, rfl, by decide, fun v w h => by (first | (change v = _ at h; subst h; intro x; cases x) | skip)⟩, fun w => rfl⟩
              · exact ⟨⟨_, _, rfl, by decide, fun v w h => by (first | (change v = _ at h; subst h; intro x; cases x) | skip)⟩, fun w => rfl⟩
              · exact ⟨⟨_, _, rfl, by decide, fun v w h => by (first | (change v = _ at h; subst h; intro x; cases x) | skip)⟩, fun w => rfl⟩
              · exact fun g b h => by (cases h)
              · exact fun g b h => by (cases h)
              · exact ⟨⟨_, _, rfl, by decide, fun v w h => by (first | (change v = _ at h; subst h; intro x; cases x) | skip)⟩, fun w => rfl⟩
              · exact ⟨⟨_, _, rfl, by decide, fun v w h => by (first | (change v = _ at h; subst h; intro x; cases x) | skip)⟩, fun w => rfl⟩
              · exact ⟨⟨_, _, rfl, by decide, fun v w h => by (first | (change v = _ at h; subst h; intro x; cases x) | skip)⟩, fun w => rfl⟩
              · exact ⟨⟨_, _, rfl, by decide, fun v w h => by (first | (change v = _ at h; subst h; intro x; cases x) | skip)⟩, fun w => rfl⟩
              · exact ⟨⟨_, _, rfl, by decide, fun v w h => by (first | (change v = _ at h; subst h; intro x; cases x) | skip)⟩, fun w => rfl⟩
              · exact ⟨⟨_, _, rfl, by decide, fun v w h => by (first | (change v = _ at h; subst h; intro x; cases x) | skip)⟩, fun w => rfl⟩
              · exact ⟨⟨_, _, rfl, by decide, fun v w h => by (first | (change v = _ at h; subst h; intro x; cases x) | skip)⟩, fun w => rfl⟩
              · exact ⟨⟨_, _, rfl, by decide, fun v w h => by (first | (change v = _ at h; subst h; intro x; cases x) | skip)⟩, fun w => rfl⟩
              · exact ⟨⟨_, _, rfl, by decide, fun v w h => by (first | (change v = _ at h; subst h; intro x; cases x) | skip)⟩, fun w => rfl⟩
              · exact ⟨⟨_, _, rfl, by decide, fun v w h => by (first | (change v = _ at h; subst h; intro x; cases x) | skip)⟩, fun w => rfl⟩
              · exact ⟨⟨_, _, rfl, by decide, fun v w h => by (first | (change v = _ at h; subst h; intro x; cases x) | skip)⟩, fun w => rfl⟩
              · exact ⟨⟨_, _, rfl, by decide, fun v w h => by (first | (change v = _ at h; subst h; intro x; cases x) | skip)⟩, fun w => rfl⟩
              · exact ⟨⟨_, _, rfl, by decide, fun v w h => by (first | (change v = _ at h; subst h; intro x; cases x) | skip)⟩, fun w => rfl⟩
              · exact fun g b h => by (cases h)
            · exact fun _ _ => keeps_refl wr
            · refine ⟨?_, ?_, ?_, ?_, ?_, ?_, ?_, ?_, ?_, ?_, ?_, ?_, ?_, ?_, ?_, ?_, ?_, ?_, ?_, ?_, ?_, ?_, ?_, ?_, ?_, ?_, ?_, ?_, ?_, ?_, ?_, ?_, ?_, ?_, ?_, ?_, ?_, ?_, ?_, ?_, ?_, ?_, ?_, ?_, ?_, ?_, ?_, ?_, ?_, trivial⟩
              · intro _ a w1 vs hI ho hn hu K hK
                have e0 : a.tmps[0]? = some (.slice (some ⟨b1, o1, none⟩) n q) := ho 0 rfl
                clear hn ho hu
                go_simp
                exact hK _ _ (keeps_refl _) hI rfl
              · intro _ a w1 vs hI ho hn hu K hK
                have e3 : a.tmps[3]? = some (.int .i64 (k : Int)) := ho 3 rfl
                clear hn ho hu
                go_simp
                exact hK _ _ (keeps_refl _) hI rfl
              · intro _ a w1 vs hI ho hn hu K hK
                obtain ⟨e15, g15⟩ : a.tmps[15]? = some (vs 0) ∧ vs 0 = .slice (some ⟨b1, o1, none⟩) n q := hn 0 (by decide)
                rw [g15] at e15
                clear g15
                obtain ⟨e16, g16⟩ : a.tmps[16]? = some (vs 1) ∧ vs 1 = .int .i64 (k : Int) := hn 1 (by decide)
                rw [g16] at e16
                clear g16
                clear hn ho hu
                have i1 := HA.out.1
                have i2 := HA.out.2
                go_simp
                exact hK _ _ (keeps_refl _) hI rfl
              · intro _ a w1 vs hI ho hn hu K hK
                obtain ⟨e17, g17⟩ : a.tmps[17]? = some (vs 2) ∧ vs 2 = .pointer (some ⟨b1, o1 + k * 3, none⟩) := hn 2 (by decide)
                rw [g17] at e17
                clear g17
                clear hn ho hu
                go_simp
                exact hK _ _ (keeps_refl _) hI rfl
              · intro _ a w1 vs hI ho hn hu K hK
                obtain ⟨e18, g18⟩ : a.tmps[18]? = some (vs 3) ∧ vs 3 = .pointer (some ⟨b1, o1 + k * 3, none⟩) := hn 3 (by decide)
                rw [g18] at e18
                clear g18
                clear hn ho hu
                have c0 := keeps_cell hI P0.out
                go_simp
                exact hK _ _ (keeps_refl _) hI rfl
              · intro _ a w1 vs hI ho hn hu K hK
                obtain ⟨e19, g19⟩ : a.tmps[19]? = some (vs 4) ∧ vs 4 = .string P := hn 4 (by decide)
                rw [g19] at e19
                clear g19
                clear hn ho hu
                go_simp
                refine Calls.mono (HMY.out _) ?_
                rintro e w' ⟨rfl, hk2⟩
                go_simp
                exact hK _ _ hk2 (Keeps.trans hI hk2) rfl
              · intro _ a w1 vs hI ho hn hu K hK
                obtain ⟨e20, g20⟩ : a.tmps[20]? = some (vs 5) ∧ vs 5 = .bool true := hn 5 (by decide)
                rw [g20] at e20
                clear g20
                clear hn ho hu
                go_simp
                exact hK _ _ (keeps_refl _) hI rfl
              · intro _ a w1 vs hI ho hn hu K hK
                obtain ⟨e21, g21⟩ : a.tmps[21]? = some (vs 6) ∧ vs 6 = .bool false := hn 6 (by decide)
                rw [g21] at e21
                clear g21
                clear hn ho hu
                go_simp
                exact hK _ _ (keeps_refl _) hI rfl
              · intro _ a w1 vs hI ho hn hu K hK
                have e3 : a.tmps[3]? = some (.int .i64 (k : Int)) := ho 3 rfl
                clear hn ho hu
                go_simp
                exact hK _ _ (keeps_refl _) hI rfl
              · intro _ a w1 vs hI ho hn hu K hK
                obtain ⟨e23, g23⟩ : a.tmps[23]? = some (vs 8) ∧ vs 8 = .int .i64 (k : Int) := hn 8 (by decide)
                rw [g23] at e23
                clear g23
                clear hn ho hu
                have q1 := HG.out.1
                have q2 := HG.out.2
                go_simp
                exact hK _ _ (keeps_refl _) hI rfl
              · intro _ a w1 vs hI ho hn hu K hK
                obtain ⟨e24, g24⟩ : a.tmps[24]? = some (vs 9) ∧ vs 9 = .bool true := hn 9 (by decide)
                rw [g24] at e24
                clear g24
                clear hn ho hu
                go_simp
                exact hK _ _ (keeps_refl _) hI rfl
              · intro _ a w1 vs hI ho hn hu K hK
                have e0 : a.tmps[0]? = some (.slice (some ⟨b1, o1, none⟩) n q) := ho 0 rfl
                clear hn ho hu
                go_simp
                exact hK _ _ (keeps_refl _) hI rfl
              · intro _ a w1 vs hI ho hn hu K hK
                have e3 : a.tmps[3]? = some (.int .i64 (k : Int)) := ho 3 rfl
                clear hn ho hu
                go_simp
                exact hK _ _ (keeps_refl _) hI rfl
              · intro _ a w1 vs hI ho hn hu K hK
                obtain ⟨e26, g26⟩ : a.tmps[26]? = some (vs 11) ∧ vs 11 = .slice (some ⟨b1, o1, none⟩) n q := hn 11 (by decide)
                rw [g26] at e26
                clear g26
                obtain ⟨e27, g27⟩ : a.tmps[27]? = some (vs 12) ∧ vs 12 = .int .i64 (k : Int) := hn 12 (by decide)
                rw [g27] at e27
                clear g27
                clear hn ho hu
                have i1 := HA.out.1
                have i2 := HA.out.2
                go_simp
                exact hK _ _ (keeps_refl _) hI rfl
              · intro _ a w1 vs hI ho hn hu K hK
                obtain ⟨e28, g28⟩ : a.tmps[28]? = some (vs 13) ∧ vs 13 = .pointer (some ⟨b1, o1 + k * 3, none⟩) := hn 13 (by decide)
                rw [g28] at e28
                clear g28
                clear hn ho hu
                go_simp
                exact hK _ _ (keeps_refl _) hI rfl
              · intro _ a w1 vs hI ho hn hu K hK
                obtain ⟨e29, g29⟩ : a.tmps[29]? = some (vs 14) ∧ vs 14 = .pointer (some ⟨b1, o1 + k * 3, none⟩) := hn 14 (by decide)
                rw [g29] at e29
                clear g29
                clear hn ho hu
                have c0 := keeps_cell hI P0.out
                go_simp
                exact hK _ _ (keeps_refl _) hI rfl
              · intro _ a w1 vs hI ho hn hu K hK
                have e0 : a.tmps[0]? = some (.slice (some ⟨b1, o1, none⟩) n q) := ho 0 rfl
                clear hn ho hu
                go_simp
                exact hK _ _ (keeps_refl _) hI rfl
              · intro _ a w1 vs hI ho hn hu K hK
                have e3 : a.tmps[3]? = some (.int .i64 (k : Int)) := ho 3 rfl
                clear hn ho hu
                go_simp
                exact hK _ _ (keeps_refl _) hI rfl
              · intro _ a w1 vs hI ho hn hu K hK
                obtain ⟨e32, g32⟩ : a.tmps[32]? = some (vs 17) ∧ vs 17 = .int .i64 (k : Int) := hn 17 (by decide)
                rw [g32] at e32
                clear g32
                clear hn ho hu
                have q1 := HW.out.1.resolve_left HK0.out
                go_simp
                exact hK _ _ (keeps_refl _) hI rfl
              · intro _ a w1 vs hI ho hn hu K hK
                obtain ⟨e31, g31⟩ : a.tmps[31]? = some (vs 16) ∧ vs 16 = .slice (some ⟨b1, o1, none⟩) n q := hn 16 (by decide)
                rw [g31] at e31
                clear g31
                obtain ⟨e33, g33⟩ : a.tmps[33]? = some (vs 18) ∧ vs 18 = .int .i64 (kp : Int) := hn 18 (by decide)
                rw [g33] at e33
                clear g33
                clear hn ho hu
                have i1 := HB.out.1
                have i2 := HB.out.2
                go_simp
                exact hK _ _ (keeps_refl _) hI rfl
              · intro _ a w1 vs hI ho hn hu K hK
                obtain ⟨e34, g34⟩ : a.tmps[34]? = some (vs 19) ∧ vs 19 = .pointer (some ⟨b1, o1 + kp * 3, none⟩) := hn 19 (by decide)
                rw [g34] at e34
                clear g34
                clear hn ho hu
                go_simp
                exact hK _ _ (keeps_refl _) hI rfl
              · intro _ a w1 vs hI ho hn hu K hK
                obtain ⟨e35, g35⟩ : a.tmps[35]? = some (vs 20) ∧ vs 20 = .pointer (some ⟨b1, o1 + kp * 3, none⟩) := hn 20 (by decide)
                rw [g35] at e35
                clear g35
                clear hn ho hu
                have c0 := keeps_cell hI Q0.out
                go_simp
                exact hK _ _ (keeps_refl _) hI rfl
              · intro _ a w1 vs hI ho hn hu K hK
                obtain ⟨e30, g30⟩ : a.tmps[30]? = some (vs 15) ∧ vs 15 = .string P := hn 15 (by decide)
                rw [g30] at e30
                clear g30
                obtain ⟨e36, g36⟩ : a.tmps[36]? = some (vs 21) ∧ vs 21 = .string Pp := hn 21 (by decide)
                rw [g36] at e36
                clear g36
                clear hn ho hu
                have q1 := HLE.out
                go_simp
                exact hK _ _ (keeps_refl _) hI rfl
              · intro _ a w1 vs hI ho hn hu K hK
                obtain ⟨e25, g25⟩ : a.tmps[25]? = some (vs 10) ∧ vs 10 = .bool true := hn 10 (by decide)
                rw [g25] at e25
                clear g25
                obtain ⟨e37, g37⟩ : a.tmps[37]? = some (vs 22) ∧ vs 22 = .bool true := hn 22 (by decide)
                rw [g37] at e37
                clear g37
                clear hn ho hu
                go_simp
                exact hK _ _ (keeps_refl _) hI rfl
              · intro _ a w1 vs hI ho hn hu K hK
                obtain ⟨e22, g22⟩ : a.tmps[22]? = some (vs 7) ∧ vs 7 = .bool false := hn 7 (by decide)
                rw [g22] at e22
                clear g22
                obtain ⟨e38, g38⟩ : a.tmps[38]? = some (vs 23) ∧ vs 23 = .bool true := hn 23 (by decide)
                rw [g38] at e38
                clear g38
                clear hn ho hu
                go_simp
                exact hK _ _ (keeps_refl _) hI rfl
              · intro _ a w1 vs hI ho hn hu K hK
                obtain ⟨e39, g39⟩ : a.tmps[39]? = some (vs 24) ∧ vs 24 = .bool true := hn 24 (by decide)
                rw [g39] at e39
                clear g39
                clear hn ho hu
                go_simp
                exact hK _ _ (keeps_refl _) hI rfl
              · intro hs; cases hs
              · intro hs; cases hs
              · intro hs; cases hs
              · intro hs; cases hs
              · intro hs; cases hs
              · intro hs; cases hs
              · intro hs; cases hs
              · intro _ a w1 vs hI ho hn hu K hK
                obtain ⟨e40, g40⟩ : a.tmps[40]? = some (vs 25) ∧ vs 25 = .bool true := hn 25 (by decide)
                rw [g40] at e40
                clear g40
                obtain ⟨e47, g47⟩ : a.tmps[47]? = some (vs 32) ∧ vs 32 = undef := hn 32 (by decide)
                rw [g47] at e47
                clear g47
                clear hn ho hu
                go_simp
                exact hK _ _ (keeps_refl _) hI rfl
              · intro _ a w1 vs hI ho hn hu K hK
                obtain ⟨e48, g48⟩ : a.tmps[48]? = some (vs 33) ∧ vs 33 = .bool true := hn 33 (by decide)
                rw [g48] at e48
                clear g48
                clear hn ho hu
                go_simp
                exact hK _ _ (keeps_refl _) hI rfl
              · intro hs; cases hs
              · intro hs; cases hs
              · intro hs; cases hs
              · intro hs; cases hs
              · intro hs; cases hs
              · intro hs; cases hs
              · intro hs; cases hs
              · intro hs; cases hs
              · intro hs; cases hs
              · intro hs; cases hs
              · intro hs; cases hs
              · intro hs; cases hs
              · intro hs; cases hs
              · intro _ a w1 vs hI ho hn hu K hK
                obtain ⟨e49, g49⟩ : a.tmps[49]? = some (vs 34) ∧ vs 34 = .bool true := hn 34 (by decide)
                rw [g49] at e49
                clear g49
                obtain ⟨e62, g62⟩ : a.tmps[62]? = some (vs 47) ∧ vs 47 = undef := hn 47 (by decide)
                rw [g62] at e62
                clear g62
                clear hn ho hu
                go_simp
                exact hK _ _ (keeps_refl _) hI rfl
            · intro vs wE hI hG
              have eL48 : vs 48 = .bool true := hG 48 (by decide)
              have HKE := Lib.hid hI
              clear hG hI
              simp only [setAll, Nat.zero_add, Nat.reduceAdd, List.setIfInBounds_toArray, List.set_cons_zero, List.set_cons_succ, eL48]
              clear eL48
              generalize vs 0 = y0 at *
              generalize vs 1 = y1 at *
              generalize vs 2 = y2 at *
              generalize vs 3 = y3 at *
              generalize vs 4 = y4 at *
              generalize vs 5 = y5 at *
              generalize vs 6 = y6 at *
              generalize vs 7 = y7 at *
              generalize vs 8 = y8 at *
              generalize vs 9 = y9 at *
              generalize vs 10 = y10 at *
              generalize vs 11 = y11 at *
              generalize vs 12 = y12 at *
              generalize vs 13 = y13 at *
              generalize vs 14 = y14 at *
              generalize vs 15 = y15 at *
              generalize vs 16 = y16 at *
              generalize vs 17 = y17 at *
              generalize vs 18 = y18 at *
              generalize vs 19 = y19 at *
              generalize vs 20 = y20 at *
              generalize vs 21 = y21 at *
              generalize vs 22 = y22 at *
              generalize vs 23 = y23 at *
              generalize vs 24 = y24 at *
              generalize vs 25 = y25 at *
              generalize vs 26 = y26 at *
              generalize vs 27 = y27 at *
              generalize vs 28 = y28 at *
              generalize vs 29 = y29 at *
              generalize vs 30 = y30 at *
              generalize vs 31 = y31 at *
              generalize vs 32 = y32 at *
              generalize vs 33 = y33 at *
              generalize vs 34 = y34 at *
              generalize vs 35 = y35 at *
              generalize vs 36 = y36 at *
              generalize vs 37 = y37 at *
              generalize vs 38 = y38 at *
              generalize vs 39 = y39 at *
              generalize vs 40 = y40 at *
              generalize vs 41 = y41 at *
              generalize vs 42 = y42 at *
              generalize vs 43 = y43 at *
              generalize vs 44 = y44 at *
              generalize vs 45 = y45 at *
              generalize vs 46 = y46 at *
              generalize vs 47 = y47 at *
              have HKW := Lib.hid (hK.out.trans HKE.out)
              clear HKE
              go_wp2_with fail
              go_ret
              exact ⟨by rw [HT2.out]; rfl, HKW.out⟩
          | true =>
            by_cases hz : 16384 < T.size
            · have HBG : Hid (decide ((16384 : Int) < (T.size : Int)) = true) := decide_eq_true (by omega)
              have HT2 := Lib.hid (HF.out (by rw [HWK.out, decide_eq_false (p := T.size ≤ 16384) (by omega)]; simp))
              go_wp2_with fail
              refine wp_region_stage [15, 16, 17, 18, 19, 20, 21, 22, 23, 24, 25, 26, 27, 28, 29, 30, 31, 32, 33, 34, 35, 36, 37, 38, 39, 40, 41, 42, 43, 44, 45, 46, 47, 48, 49, 50, 51, 52, 53, 54, 55, 56, 57, 58, 59, 60, 61, 62, 63] [[], [], [0, 1], [2], [3], [4], [5], [6], [7], [7, 8], [7, 9], [10], [10], [10, 11, 12], [10, 13], [10, 14], [10], [10], [10, 17], [10, 16, 18], [10, 19], [10, 20], [10, 15, 21], [7, 10, 22], [7, 23], [24], [25], [25], [25, 26, 27], [25, 28], [25, 29], [25, 30], [25, 31], [25, 32], [33], [34], [34], [34], [34], [34], [34], [40], [40], [40], [40], [40], [40], [34], [34, 47]] [] [0, 0, 0, 0, 0, 0, 0, 0, 0, 0, 0, 0, 0, 0, 0, 0, 0, 0, 0, 0, 0, 0, 0, 0, 0, 0, 0, 0, 0, 0, 0, 0, 0, 0, 0, 0, 0, 0, 0, 0, 0, 0, 0, 0, 0, 0, 0, 0, 0] [35, 36, 37, 38, 39, 40, 41, 42, 43, 44, 45, 46, 47] (fun i v _ => rtrYb b1 o1 n q k kp P Pp T i v) (fun w w' => Keeps w w') (fun _ _ w' => Keeps wr w') (by kernel_rfl) (by kernel_rfl) (by kernel_rfl) (by kernel_rfl) (by kernel_rfl) (by kernel_rfl) (by kernel_rfl) ?_ ?_ ?_ ?_ ?_ ?_ ?_
              · exact fun i v w w' c h => h
              · exact fun w => keeps_refl w
              · exact fun i s vs w _ h => h
              · refine ⟨?_, ?_, ?_, ?_, ?_, ?_, ?_, ?_, ?_, ?_, ?_, ?_, ?_, ?_, ?_, ?_, ?_, ?_, ?_, ?_, ?_, ?_, ?_, ?_, ?_, ?_, ?_, ?_, ?_, ?_, ?_, ?_, ?_, ?_, ?_, ?_, ?_, ?_, ?_, ?_, ?_, ?_, ?_, ?_, ?_, ?_, ?_, ?_, ?_, trivial⟩
                · exact fun g b h => by (cases h)
                · exact fun g b h => by (cases h)
                · exact fun g b h => by (cases h)
                · exact fun g b h => by (cases h)
                · exact fun g b h => by (cases h)
                · exact fun g b h => by (cases h)
                · exact fun g b h => by (cases h)
                · exact fun g b h => by (cases h)
                · exact fun g b h => by (cases h; exact ⟨by decide, fun v w h => h⟩)
                · exact fun g b h => by (cases h; exact ⟨by decide, fun v w h => h⟩)
                · exact fun g b h => by (cases h; exact ⟨by decide, fun v w h => h⟩)
                · exact fun g b h => by (cases h; exact ⟨by decide, fun v w h => h⟩)
                · exact fun g b h => by (cases h; exact ⟨by decide, fun v w h => h⟩)
                · exact fun g b h => by (cases h; exact ⟨by decide, fun v w h => h⟩)
                · exact fun g b h => by (cases h; exact ⟨by decide, fun v w h => h⟩)
                · exact fun g b h => by (cases h; exact ⟨by decide, fun v w h => h⟩)
                · exact fun g b h => by (cases h; exact ⟨by decide, fun v w h => h⟩)
                · exact fun g b h => by (cases h; exact ⟨by decide, fun v w h => h⟩)
                · exact fun g b h => by (cases h; exact ⟨by decide, fun v w h => h⟩)
                · exact fun g b h => by (cases h; exact ⟨by decide, fun v w h => h⟩)
                · exact fun g b h => by (cases h; exact ⟨by decide, fun v w h => h⟩)
                · exact fun g b h => by (cases h; exact ⟨by decide, fun v w h => h⟩)
                · exact fun g b h => by (cases h; exact ⟨by decide, fun v w h => h⟩)
                · exact fun g b h => by (cases h; exact ⟨by decide, fun v w h => h⟩)
                · exact fun g b h => by (cases h)
                · exact fun g b h => by (cases h)
                · exact fun g b h => by (cases h; exact ⟨by decide, fun v w h => h⟩)
                · exact fun g b h => by (cases h; exact ⟨by decide, fun v w h => h⟩)
                · exact fun g b h => by (cases h; exact ⟨by decide, fun v w h => h⟩)
                · exact fun g b h => by (cases h; exact ⟨by decide, fun v w h => h⟩)
                · exact fun g b h => by (cases h; exact ⟨by decide, fun v w h => h⟩)
                · exact fun g b h => by (cases h; exact ⟨by decide, fun v w h => h⟩)
                · exact fun g b h => by (cases h; exact ⟨by decide, fun v w h => h⟩)
                · exact fun g b h => by (cases h)
                · exact fun g b h => by (cases h)
                · exact ⟨⟨_, _, rfl, by decide, fun v w h => by (first | (change v = _ at h; subst h; intro x; cases x) | skip)⟩, fun w => rfl⟩
                · exact ⟨⟨_, _, rfl, by decide, fun v w h => by (first | (change v = _ at h; subst h; intro x; cases x) | skip)⟩, fun w => rfl⟩
                · exact ⟨⟨_, _, rfl, by decide, fun v w h => by (first | (change v = _ at h; subst h; intro x; cases x) | skip)⟩, fun w => rfl⟩
                · exact ⟨⟨_, _, rfl, by decide, fun v w h => by (first | (change v = _ at h; subst h; intro x; cases x) | skip)⟩, fun w => rfl⟩
                · exact ⟨⟨_, _, rfl, by decide, fun v w h => by (first | (change v = _ at h; subst h; intro x; cases x) | skip)⟩, fun w => rfl⟩
                · exact ⟨⟨_, _, rfl, by decide, fun v w h => by (first | (change v = _ at h; subst h; intro x; cases x) | skip)⟩, fun w => rfl⟩
                · exact ⟨⟨_, _, rfl, by decide, fun v w h => by (first | (change v = _ at h; subst h; intro x; cases x) | skip)⟩, fun w => rfl⟩
                · exact ⟨⟨_, _, rfl, by decide, fun v w h => by (first | (change v = _ at h; subst h; intro x; cases x) | skip)⟩, fun w => rfl⟩
                · exact ⟨⟨_, _, rfl, by decide, fun v w h => by (first | (change v = _ at h; subst h; intro x; cases x) | skip)⟩, fun w => rfl⟩
                · exact ⟨⟨_, _, rfl, by decide, fun v w h => by (first | (change v = _ at h; subst h; intro x; cases x) | skip)⟩, fun w => rfl⟩
                · exact ⟨⟨_, _, rfl, by decide, fun v w h => by (first | (change v = _ at h; subst h; intro x; cases x) | skip)⟩, fun w => rfl⟩
                · exact ⟨⟨_, _, rfl, by decide, fun v w h => by (first | (change v = _ at h; subst h; intro x; cases x) | skip)⟩, fun w => rfl⟩
                · exact ⟨⟨_, _, rfl, by decide, fun v w h => by (first | (change v = _ at h; subst h; intro x; cases x) | skip)⟩, fun w => rfl⟩
                · exact fun g b h => by (cases h)
              · exact fun _ _ => keeps_refl wr
              · refine ⟨?_, ?_, ?_, ?_, ?_, ?_, ?_, ?_, ?_, ?_, ?_, ?_, ?_, ?_, ?_, ?_, ?_, ?_, ?_, ?_, ?_, ?_, ?_, ?_, ?_, ?_, ?_, ?_, ?_, ?_, ?_, ?_, ?_, ?_, ?_, ?_, ?_, ?_, ?_, ?_, ?_, ?_, ?_, ?_, ?_, ?_, ?_, ?_, ?_, trivial⟩
                · intro _ a w1 vs hI ho hn hu K hK
                  have e0 : a.tmps[0]? = some (.slice (some ⟨b1, o1, none⟩) n q) := ho 0 rfl
                  clear hn ho hu
                  go_simp
                  exact hK _ _ (keeps_refl _) hI rfl
                · intro _ a w1 vs hI ho hn hu K hK
                  have e3 : a.tmps[3]? = some (.int .i64 (k : Int)) := ho 3 rfl
                  clear hn ho hu
                  go_simp
                  exact hK _ _ (keeps_refl _) hI rfl
                · intro _ a w1 vs hI ho hn hu K hK
                  obtain ⟨e15, g15⟩ : a.tmps[15]? = some (vs 0) ∧ vs 0 = .slice (some ⟨b1, o1, none⟩) n q := hn 0 (by decide)
                  rw [g15] at e15
                  clear g15
                  obtain ⟨e16, g16⟩ : a.tmps[16]? = some (vs 1) ∧ vs 1 = .int .i64 (k : Int) := hn 1 (by decide)
                  rw [g16] at e16
                  clear g16
                  clear hn ho hu
                  have i1 := HA.out.1
                  have i2 := HA.out.2
                  go_simp
                  exact hK _ _ (keeps_refl _) hI rfl
                · intro _ a w1 vs hI ho hn hu K hK
                  obtain ⟨e17, g17⟩ : a.tmps[17]? = some (vs 2) ∧ vs 2 = .pointer (some ⟨b1, o1 + k * 3, none⟩) := hn 2 (by decide)
                  rw [g17] at e17
                  clear g17
                  clear hn ho hu
                  go_simp
                  exact hK _ _ (keeps_refl _) hI rfl
                · intro _ a w1 vs hI ho hn hu K hK
                  obtain ⟨e18, g18⟩ : a.tmps[18]? = some (vs 3) ∧ vs 3 = .pointer (some ⟨b1, o1 + k * 3, none⟩) := hn 3 (by decide)
                  rw [g18] at e18
                  clear g18
                  clear hn ho hu
                  have c0 := keeps_cell hI P0.out
                  go_simp
                  exact hK _ _ (keeps_refl _) hI rfl
                · intro _ a w1 vs hI ho hn hu K hK
                  obtain ⟨e19, g19⟩ : a.tmps[19]? = some (vs 4) ∧ vs 4 = .string P := hn 4 (by decide)
                  rw [g19] at e19
                  clear g19
                  clear hn ho hu
                  go_simp
                  refine Calls.mono (HMY.out _) ?_
                  rintro e w' ⟨rfl, hk2⟩
                  go_simp
                  exact hK _ _ hk2 (Keeps.trans hI hk2) rfl
                · intro _ a w1 vs hI ho hn hu K hK
                  obtain ⟨e20, g20⟩ : a.tmps[20]? = some (vs 5) ∧ vs 5 = .bool true := hn 5 (by decide)
                  rw [g20] at e20
                  clear g20
                  clear hn ho hu
                  go_simp
                  exact hK _ _ (keeps_refl _) hI rfl
                · intro _ a w1 vs hI ho hn hu K hK
                  obtain ⟨e21, g21⟩ : a.tmps[21]? = some (vs 6) ∧ vs 6 = .bool false := hn 6 (by decide)
                  rw [g21] at e21
                  clear g21
                  clear hn ho hu
                  go_simp
                  exact hK _ _ (keeps_refl _) hI rfl
                · intro _ a w1 vs hI ho hn hu K hK
                  have e3 : a.tmps[3]? = some (.int .i64 (k : Int)) := ho 3 rfl
                  clear hn ho hu
                  go_simp
                  exact hK _ _ (keeps_refl _) hI rfl
                · intro _ a w1 vs hI ho hn hu K hK
                  obtain ⟨e23, g23⟩ : a.tmps[23]? = some (vs 8) ∧ vs 8 = .int .i64 (k : Int) := hn 8 (by decide)
                  rw [g23] at e23
                  clear g23
                  clear hn ho hu
                  have q1 := HG.out.1
                  have q2 := HG.out.2
                  go_simp
                  exact hK _ _ (keeps_refl _) hI rfl
                · intro _ a w1 vs hI ho hn hu K hK
                  obtain ⟨e24, g24⟩ : a.tmps[24]? = some (vs 9) ∧ vs 9 = .bool true := hn 9 (by decide)
                  rw [g24] at e24
                  clear g24
                  clear hn ho hu
                  go_simp
                  exact hK _ _ (keeps_refl _) hI rfl
                · intro _ a w1 vs hI ho hn hu K hK
                  have e0 : a.tmps[0]? = some (.slice (some ⟨b1, o1, none⟩) n q) := ho 0 rfl
                  clear hn ho hu
                  go_simp
                  exact hK _ _ (keeps_refl _) hI rfl
                · intro _ a w1 vs hI ho hn hu K hK
                  have e3 : a.tmps[3]? = some (.int .i64 (k : Int)) := ho 3 rfl
                  clear hn ho hu
                  go_simp
                  exact hK _ _ (keeps_refl _) hI rfl
                · intro _ a w1 vs hI ho hn hu K hK
                  obtain ⟨e26, g26⟩ : a.tmps[26]? = some (vs 11) ∧ vs 11 = .slice (some ⟨b1, o1, none⟩) n q := hn 11 (by decide)
                  rw [g26] at e26
                  clear g26
                  obtain ⟨e27, g27⟩ : a.tmps[27]? = some (vs 12) ∧ vs 12 = .int .i64 (k : Int) := hn 12 (by decide)
                  rw [g27] at e27
                  clear g27
                  clear hn ho hu
                  have i1 := HA.out.1
                  have i2 := HA.out.2
                  go_simp
                  exact hK _ _ (keeps_refl _) hI rfl
                · intro _ a w1 vs hI ho hn hu K hK
                  obtain ⟨e28, g28⟩ : a.tmps[28]? = some (vs 13) ∧ vs 13 = .pointer (some ⟨b1, o1 + k * 3, none⟩) := hn 13 (by decide)
                  rw [g28] at e28
                  clear g28
                  clear hn ho hu
                  go_simp
                  exact hK _ _ (keeps_refl _) hI rfl
                · intro _ a w1 vs hI ho hn hu K hK
                  obtain ⟨e29, g29⟩ : a.tmps[29]? = some (vs 14) ∧ vs 14 = .pointer (some ⟨b1, o1 + k * 3, none⟩) := hn 14 (by decide)
                  rw [g29] at e29
                  clear g29
                  clear hn ho hu
                  have c0 := keeps_cell hI P0.out
                  go_simp
                  exact hK _ _ (keeps_refl _) hI rfl
                · intro _ a w1 vs hI ho hn hu K hK
                  have e0 : a.tmps[0]? = some (.slice (some ⟨b1, o1, none⟩) n q) := ho 0 rfl
                  clear hn ho hu
                  go_simp
                  exact hK _ _ (keeps_refl _) hI rfl
                · intro _ a w1 vs hI ho hn hu K hK
                  have e3 : a.tmps[3]? = some (.int .i64 (k : Int)) := ho 3 rfl
                  clear hn ho hu
                  go_simp
                  exact hK _ _ (keeps_refl _) hI rfl
                · intro _ a w1 vs hI ho hn hu K hK
                  obtain ⟨e32, g32⟩ : a.tmps[32]? = some (vs 17) ∧ vs 17 = .int .i64 (k : Int) := hn 17 (by decide)
                  rw [g32] at e32
                  clear g32
                  clear hn ho hu
                  have q1 := HW.out.1.resolve_left HK0.out
                  go_simp
                  exact hK _ _ (keeps_refl _) hI rfl
                · intro _ a w1 vs hI ho hn hu K hK
                  obtain ⟨e31, g31⟩ : a.tmps[31]? = some (vs 16) ∧ vs 16 = .slice (some ⟨b1, o1, none⟩) n q := hn 16 (by decide)
                  rw [g31] at e31
                  clear g31
                  obtain ⟨e33, g33⟩ : a.tmps[33]? = some (vs 18) ∧ vs 18 = .int .i64 (kp : Int) := hn 18 (by decide)
                  rw [g33] at e33
                  clear g33
                  clear hn ho hu
                  have i1 := HB.out.1
                  have i2 := HB.out.2
                  go_simp
                  exact hK _ _ (keeps_refl _) hI rfl
                · intro _ a w1 vs hI ho hn hu K hK
                  obtain ⟨e34, g34⟩ : a.tmps[34]? = some (vs 19) ∧ vs 19 = .pointer (some ⟨b1, o1 + kp * 3, none⟩) := hn 19 (by decide)
                  rw [g34] at e34
                  clear g34
                  clear hn ho hu
                  go_simp
                  exact hK _ _ (keeps_refl _) hI rfl
                · intro _ a w1 vs hI ho hn hu K hK
                  obtain ⟨e35, g35⟩ : a.tmps[35]? = some (vs 20) ∧ vs 20 = .pointer (some ⟨b1, o1 + kp * 3, none⟩) := hn 20 (by decide)
                  rw [g35] at e35
                  clear g35
                  clear hn ho hu
                  have c0 := keeps_cell hI Q0.out
                  go_simp
                  exact hK _ _ (keeps_refl _) hI rfl
                · intro _ a w1 vs hI ho hn hu K hK
                  obtain ⟨e30, g30⟩ : a.tmps[30]? = some (vs 15) ∧ vs 15 = .string P := hn 15 (by decide)
                  rw [g30] at e30
                  clear g30
                  obtain ⟨e36, g36⟩ : a.tmps[36]? = some (vs 21) ∧ vs 21 = .string Pp := hn 21 (by decide)
                  rw [g36] at e36
                  clear g36
                  clear hn ho hu
                  have q1 := HLE.out
                  go_simp
                  exact hK _ _ (keeps_refl _) hI rfl
                · intro _ a w1 vs hI ho hn hu K hK
                  obtain ⟨e25, g25⟩ : a.tmps[25]? = some (vs 10) ∧ vs 10 = .bool true := hn 10 (by decide)
                  rw [g25] at e25
                  clear g25
                  obtain ⟨e37, g37⟩ : a.tmps[37]? = some (vs 22) ∧ vs 22 = .bool false := hn 22 (by decide)
                  rw [g37] at e37
                  clear g37
                  clear hn ho hu
                  go_simp
                  exact hK _ _ (keeps_refl _) hI rfl
                · intro _ a w1 vs hI ho hn hu K hK
                  obtain ⟨e22, g22⟩ : a.tmps[22]? = some (vs 7) ∧ vs 7 = .bool false := hn 7 (by decide)
                  rw [g22] at e22
                  clear g22
                  obtain ⟨e38, g38⟩ : a.tmps[38]? = some (vs 23) ∧ vs 23 = .bool false := hn 23 (by decide)
                  rw [g38] at e38
                  clear g38
                  clear hn ho hu
                  go_simp
                  exact hK _ _ (keeps_refl _) hI rfl
                · intro _ a w1 vs hI ho hn hu K hK
                  obtain ⟨e39, g39⟩ : a.tmps[39]? = some (vs 24) ∧ vs 24 = .bool false := hn 24 (by decide)
                  rw [g39] at e39
                  clear g39
                  clear hn ho hu
                  go_simp
                  exact hK _ _ (keeps_refl _) hI rfl
                · intro _ a w1 vs hI ho hn hu K hK
                  have e0 : a.tmps[0]? = some (.slice (some ⟨b1, o1, none⟩) n q) := ho 0 rfl
                  clear hn ho hu
                  go_simp
                  exact hK _ _ (keeps_refl _) hI rfl
                · intro _ a w1 vs hI ho hn hu K hK
                  have e3 : a.tmps[3]? = some (.int .i64 (k : Int)) := ho 3 rfl
                  clear hn ho hu
                  go_simp
                  exact hK _ _ (keeps_refl _) hI rfl
                · intro _ a w1 vs hI ho hn hu K hK
                  obtain ⟨e41, g41⟩ : a.tmps[41]? = some (vs 26) ∧ vs 26 = .slice (some ⟨b1, o1, none⟩) n q := hn 26 (by decide)
                  rw [g41] at e41
                  clear g41
                  obtain ⟨e42, g42⟩ : a.tmps[42]? = some (vs 27) ∧ vs 27 = .int .i64 (k : Int) := hn 27 (by decide)
                  rw [g42] at e42
                  clear g42
                  clear hn ho hu
                  have i1 := HA.out.1
                  have i2 := HA.out.2
                  go_simp
                  exact hK _ _ (keeps_refl _) hI rfl
                · intro _ a w1 vs hI ho hn hu K hK
                  obtain ⟨e43, g43⟩ : a.tmps[43]? = some (vs 28) ∧ vs 28 = .pointer (some ⟨b1, o1 + k * 3, none⟩) := hn 28 (by decide)
                  rw [g43] at e43
                  clear g43
                  clear hn ho hu
                  go_simp
                  exact hK _ _ (keeps_refl _) hI rfl
                · intro _ a w1 vs hI ho hn hu K hK
                  obtain ⟨e44, g44⟩ : a.tmps[44]? = some (vs 29) ∧ vs 29 = .pointer (some ⟨b1, o1 + k * 3 + 2, none⟩) := hn 29 (by decide)
                  rw [g44] at e44
                  clear g44
                  clear hn ho hu
                  have c0 := keeps_cell hI T2.out
                  go_simp
                  exact hK _ _ (keeps_refl _) hI rfl
                · intro _ a w1 vs hI ho hn hu K hK
                  obtain ⟨e45, g45⟩ : a.tmps[45]? = some (vs 30) ∧ vs 30 = .string T := hn 30 (by decide)
                  rw [g45] at e45
                  clear g45
                  clear hn ho hu
                  go_simp
                  exact hK _ _ (keeps_refl _) hI rfl
                · intro _ a w1 vs hI ho hn hu K hK
                  obtain ⟨e46, g46⟩ : a.tmps[46]? = some (vs 31) ∧ vs 31 = .int .i64 (T.size : Int) := hn 31 (by decide)
                  rw [g46] at e46
                  clear g46
                  clear hn ho hu
                  have q1 := HBG.out
                  go_simp
                  exact hK _ _ (keeps_refl _) hI rfl
                · intro _ a w1 vs hI ho hn hu K hK
                  obtain ⟨e40, g40⟩ : a.tmps[40]? = some (vs 25) ∧ vs 25 = .bool false := hn 25 (by decide)
                  rw [g40] at e40
                  clear g40
                  obtain ⟨e47, g47⟩ : a.tmps[47]? = some (vs 32) ∧ vs 32 = .bool true := hn 32 (by decide)
                  rw [g47] at e47
                  clear g47
                  clear hn ho hu
                  go_simp
                  exact hK _ _ (keeps_refl _) hI rfl
                · intro _ a w1 vs hI ho hn hu K hK
                  obtain ⟨e48, g48⟩ : a.tmps[48]? = some (vs 33) ∧ vs 33 = .bool true := hn 33 (by decide)
                  rw [g48] at e48
                  clear g48
                  clear hn ho hu
                  go_simp
                  exact hK _ _ (keeps_refl _) hI rfl
                · intro hs; cases hs
                · intro hs; cases hs
                · intro hs; cases hs
                · intro hs; cases hs
                · intro hs; cases hs
                · intro hs; cases hs
                · intro hs; cases hs
                · intro hs; cases hs
                · intro hs; cases hs
                · intro hs; cases hs
                · intro hs; cases hs
                · intro hs; cases hs
                · intro hs; cases hs
                · intro _ a w1 vs hI ho hn hu K hK
                  obtain ⟨e49, g49⟩ : a.tmps[49]? = some (vs 34) ∧ vs 34 = .bool true := hn 34 (by decide)
                  rw [g49] at e49
                  clear g49
                  obtain ⟨e62, g62⟩ : a.tmps[62]? = some (vs 47) ∧ vs 47 = undef := hn 47 (by decide)
                  rw [g62] at e62
                  clear g62
                  clear hn ho hu
                  go_simp
                  exact hK _ _ (keeps_refl _) hI rfl
              · intro vs wE hI hG
                have eL48 : vs 48 = .bool true := hG 48 (by decide)
                have HKE := Lib.hid hI
                clear hG hI
                simp only [setAll, Nat.zero_add, Nat.reduceAdd, List.setIfInBounds_toArray, List.set_cons_zero, List.set_cons_succ, eL48]
                clear eL48
                generalize vs 0 = y0 at *
                generalize vs 1 = y1 at *
                generalize vs 2 = y2 at *
                generalize vs 3 = y3 at *
                generalize vs 4 = y4 at *
                generalize vs 5 = y5 at *
                generalize vs 6 = y6 at *
                generalize vs 7 = y7 at *
                generalize vs 8 = y8 at *
                generalize vs 9 = y9 at *
                generalize vs 10 = y10 at *
                generalize vs 11 = y11 at *
                generalize vs 12 = y12 at *
                generalize vs 13 = y13 at *
                generalize vs 14 = y14 at *
                generalize vs 15 = y15 at *
                generalize vs 16 = y16 at *
                generalize vs 17 = y17 at *
                generalize vs 18 = y18 at *
                generalize vs 19 = y19 at *
                generalize vs 20 = y20 at *
                generalize vs 21 = y21 at *
                generalize vs 22 = y22 at *
                generalize vs 23 = y23 at *
                generalize vs 24 = y24 at *
                generalize vs 25 = y25 at *
                generalize vs 26 = y26 at *
                generalize vs 27 = y27 at *
                generalize vs 28 = y28 at *
                generalize vs 29 = y29 at *
                generalize vs 30 = y30 at *
                generalize vs 31 = y31 at *
                generalize vs 32 = y32 at *
                generalize vs 33 = y33 at *
                generalize vs 34 = y34 at *
                generalize vs 35 = y35 at *
                generalize vs 36 = y36 at *
                generalize vs 37 = y37 at *
                generalize vs 38 = y38 at *
                generalize vs 39 = y39 at *
                generalize vs 40 = y40 at *
                generalize vs 41 = y41 at *
                generalize vs 42 = y42 at *
                generalize vs 43 = y43 at *
                generalize vs 44 = y44 at *
                generalize vs 45 = y45 at *
                generalize vs 46 = y46 at *
                generalize vs 47 = y47 at *
                have HKW := Lib.hid (hK.out.trans HKE.out)
                clear HKE
                go_wp2_with fail
                go_ret
                exact ⟨by rw [HT2.out]; rfl, HKW.out⟩
            · have HBG : Hid (decide ((16384 : Int) < (T.size : Int)) = false) := decide_eq_false (by omega)
              have hz2 : decide (T.size ≤ 16384) = true := decide_eq_true (by omega)
              cases D with
              | false =>
                have HOK : Hid (okR l k = (!I || dirIn l U)) := by show _ = _; rw [HWK.out, hz2]; simp
                clear hz hz2
                go_wp2_with fail
                refine wp_region_stage [15, 16, 17, 18, 19, 20, 21, 22, 23, 24, 25, 26, 27, 28, 29, 30, 31, 32, 33, 34, 35, 36, 37, 38, 39, 40, 41, 42, 43, 44, 45, 46, 47, 48, 49, 50, 51, 52, 53, 54, 55, 56, 57, 58, 59, 60, 61, 62, 63] [[], [], [0, 1], [2], [3], [4], [5], [6], [7], [7, 8], [7, 9], [10], [10], [10, 11, 12], [10, 13], [10, 14], [10], [10], [10, 17], [10, 16, 18], [10, 19], [10, 20], [10, 15, 21], [7, 10, 22], [7, 23], [24], [25], [25], [25, 26, 27], [25, 28], [25, 29], [25, 30], [25, 31], [25, 32], [33], [34], [34], [34, 35, 36], [34, 37], [34, 38], [34, 39], [40], [40], [40], [40], [40], [40], [34, 40, 46], [34, 47]] [] [0, 0, 0, 0, 0, 0, 0, 0, 0, 0, 0, 0, 0, 0, 0, 0, 0, 0, 0, 0, 0, 0, 0, 0, 0, 0, 0, 0, 0, 0, 0, 0, 0, 0, 0, 0, 0, 0, 0, 0, 0, 0, 0, 0, 0, 0, 0, 0, 0] [41, 42, 43, 44, 45, 46] (fun i v _ => rtrYc b1 o1 n q k kp P Pp T i v) (fun w w' => Keeps w w') (fun _ _ w' => Keeps wr w') (by kernel_rfl) (by kernel_rfl) (by kernel_rfl) (by kernel_rfl) (by kernel_rfl) (by kernel_rfl) (by kernel_rfl) ?_ ?_ ?_ ?_ ?_ ?_ ?_
                · exact fun i v w w' c h => h
                · exact fun w => keeps_refl w
                · exact fun i s vs w _ h => h
                · refine ⟨?_, ?_, ?_, ?_, ?_, ?_, ?_, ?_, ?_, ?_, ?_, ?_, ?_, ?_, ?_, ?_, ?_, ?_, ?_, ?_, ?_, ?_, ?_, ?_, ?_, ?_, ?_, ?_, ?_, ?_, ?_, ?_, ?_, ?_, ?_, ?_, ?_, ?_, ?_, ?_, ?_, ?_, ?_, ?_, ?_, ?_, ?_, ?_, ?_, trivial⟩
                  · exact fun g b h => by (cases h)
                  · exact fun g b h => by (cases h)
                  · exact fun g b h => by (cases h)
                  · exact fun g b h => by (cases h)
                  · exact fun g b h => by (cases h)
                  · exact fun g b h => by (cases h)
                  · exact fun g b h => by (cases h)
                  · exact fun g b h => by (cases h)
                  · exact fun g b h => by (cases h; exact ⟨by decide, fun v w h => h⟩)
                  · exact fun g b h => by (cases h; exact ⟨by decide, fun v w h => h⟩)
                  · exact fun g b h => by (cases h; exact ⟨by decide, fun v w h => h⟩)
                  · exact fun g b h => by (cases h; exact ⟨by decide, fun v w h => h⟩)
                  · exact fun g b h => by (cases h; exact ⟨by decide, fun v w h => h⟩)
                  · exact fun g b h => by (cases h; exact ⟨by decide, fun v w h => h⟩)
                  · exact fun g b h => by (cases h; exact ⟨by decide, fun v w h => h⟩)
                  · exact fun g b h => by (cases h; exact ⟨by decide, fun v w h => h⟩)
                  · exact fun g b h => by (cases h; exact ⟨by decide, fun v w h => h⟩)
                  · exact fun g b h => by (cases h; exact ⟨by decide, fun v w h => h⟩)
                  · exact fun g b h => by (cases h; exact ⟨by decide, fun v w h => h⟩)
                  · exact fun g b h => by (cases h; exact ⟨by decide, fun v w h => h⟩)
                  · exact fun g b h => by (cases h; exact ⟨by decide, fun v w h => h⟩)
                  · exact fun g b h => by (cases h; exact ⟨by decide, fun v w h => h⟩)
                  · exact fun g b h => by (cases h; exact ⟨by decide, fun v w h => h⟩)
                  · exact fun g b h => by (cases h; exact ⟨by decide, fun v w h => h⟩)
                  · exact fun g b h => by (cases h)
                  · exact fun g b h => by (cases h)
                  · exact fun g b h => by (cases h; exact ⟨by decide, fun v w h => h⟩)
                  · exact fun g b h => by (cases h; exact ⟨by decide, fun v w h => h⟩)
                  · exact fun g b h => by (cases h; exact ⟨by decide, fun v w h => h⟩)
                  · exact fun g b h => by (cases h; exact ⟨by decide, fun v w h => h⟩)
                  · exact fun g b h => by (cases h; exact ⟨by decide, fun v w h => h⟩)
                  · exact fun g b h => by (cases h; exact ⟨by decide, fun v w h => h⟩)
                  · exact fun g b h => by (cases h; exact ⟨by decide, fun v w h => h⟩)
                  · exact fun g b h => by (cases h)
                  · exact fun g b h => by (cases h)
                  · exact fun g b h => by (cases h; exact ⟨by decide, fun v w h => h⟩)
                  · exact fun g b h => by (cases h; exact ⟨by decide, fun v w h => h⟩)
                  · exact fun g b h => by (cases h; exact ⟨by decide, fun v w h => h⟩)
                  · exact fun g b h => by (cases h; exact ⟨by decide, fun v w h => h⟩)
                  · exact fun g b h => by (cases h; exact ⟨by decide, fun v w h => h⟩)
                  · exact fun g b h => by (cases h; exact ⟨by decide, fun v w h => h⟩)
                  · exact ⟨⟨_, _, rfl, by decide, fun v w h => by (first | (change v = _ at h; subst h; intro x; cases x) | skip)⟩, fun w => rfl⟩
                  · exact ⟨⟨_, _, rfl, by decide, fun v w h => by (first | (change v = _ at h; subst h; intro x; cases x) | skip)⟩, fun w => rfl⟩
                  · exact ⟨⟨_, _, rfl, by decide, fun v w h => by (first | (change v = _ at h; subst h; intro x; cases x) | skip)⟩, fun w => rfl⟩
                  · exact ⟨⟨_, _, rfl, by decide, fun v w h => by (first | (change v = _ at h; subst h; intro x; cases x) | skip)⟩, fun w => rfl⟩
                  · exact ⟨⟨_, _, rfl, by decide, fun v w h => by (first | (change v = _ at h; subst h; intro x; cases x) | skip)⟩, fun w => rfl⟩
                  · exact ⟨⟨_, _, rfl, by decide, fun v w h => by (first | (change v = _ at h; subst h; intro x; cases x) | skip)⟩, fun w => rfl⟩
                  · exact fun g b h => by (cases h; exact ⟨by decide, fun v w h => h⟩)
                  · exact fun g b h => by (cases h)
                · exact fun _ _ => keeps_refl wr
                · refine ⟨?_, ?_, ?_, ?_, ?_, ?_, ?_, ?_, ?_, ?_, ?_, ?_, ?_, ?_, ?_, ?_, ?_, ?_, ?_, ?_, ?_, ?_, ?_, ?_, ?_, ?_, ?_, ?_, ?_, ?_, ?_, ?_, ?_, ?_, ?_, ?_, ?_, ?_, ?_, ?_, ?_, ?_, ?_, ?_, ?_, ?_, ?_, ?_, ?_, trivial⟩
                  · intro _ a w1 vs hI ho hn hu K hK
                    have e0 : a.tmps[0]? = some (.slice (some ⟨b1, o1, none⟩) n q) := ho 0 rfl
                    clear hn ho hu
                    go_simp
                    exact hK _ _ (keeps_refl _) hI rfl
                  · intro _ a w1 vs hI ho hn hu K hK
                    have e3 : a.tmps[3]? = some (.int .i64 (k : Int)) := ho 3 rfl
                    clear hn ho hu
                    go_simp
                    exact hK _ _ (keeps_refl _) hI rfl
                  · intro _ a w1 vs hI ho hn hu K hK
                    obtain ⟨e15, g15⟩ : a.tmps[15]? = some (vs 0) ∧ vs 0 = .slice (some ⟨b1, o1, none⟩) n q := hn 0 (by decide)
                    rw [g15] at e15
                    clear g15
                    obtain ⟨e16, g16⟩ : a.tmps[16]? = some (vs 1) ∧ vs 1 = .int .i64 (k : Int) := hn 1 (by decide)
                    rw [g16] at e16
                    clear g16
                    clear hn ho hu
                    have i1 := HA.out.1
                    have i2 := HA.out.2
                    go_simp
                    exact hK _ _ (keeps_refl _) hI rfl
                  · intro _ a w1 vs hI ho hn hu K hK
                    obtain ⟨e17, g17⟩ : a.tmps[17]? = some (vs 2) ∧ vs 2 = .pointer (some ⟨b1, o1 + k * 3, none⟩) := hn 2 (by decide)
                    rw [g17] at e17
                    clear g17
                    clear hn ho hu
                    go_simp
                    exact hK _ _ (keeps_refl _) hI rfl
                  · intro _ a w1 vs hI ho hn hu K hK
                    obtain ⟨e18, g18⟩ : a.tmps[18]? = some (vs 3) ∧ vs 3 = .pointer (some ⟨b1, o1 + k * 3, none⟩) := hn 3 (by decide)
                    rw [g18] at e18
                    clear g18
                    clear hn ho hu
                    have c0 := keeps_cell hI P0.out
                    go_simp
                    exact hK _ _ (keeps_refl _) hI rfl
                  · intro _ a w1 vs hI ho hn hu K hK
                    obtain ⟨e19, g19⟩ : a.tmps[19]? = some (vs 4) ∧ vs 4 = .string P := hn 4 (by decide)
                    rw [g19] at e19
                    clear g19
                    clear hn ho hu
                    go_simp
                    refine Calls.mono (HMY.out _) ?_
                    rintro e w' ⟨rfl, hk2⟩
                    go_simp
                    exact hK _ _ hk2 (Keeps.trans hI hk2) rfl
                  · intro _ a w1 vs hI ho hn hu K hK
                    obtain ⟨e20, g20⟩ : a.tmps[20]? = some (vs 5) ∧ vs 5 = .bool true := hn 5 (by decide)
                    rw [g20] at e20
                    clear g20
                    clear hn ho hu
                    go_simp
                    exact hK _ _ (keeps_refl _) hI rfl
                  · intro _ a w1 vs hI ho hn hu K hK
                    obtain ⟨e21, g21⟩ : a.tmps[21]? = some (vs 6) ∧ vs 6 = .bool false := hn 6 (by decide)
                    rw [g21] at e21
                    clear g21
                    clear hn ho hu
                    go_simp
                    exact hK _ _ (keeps_refl _) hI rfl
                  · intro _ a w1 vs hI ho hn hu K hK
                    have e3 : a.tmps[3]? = some (.int .i64 (k : Int)) := ho 3 rfl
                    clear hn ho hu
                    go_simp
                    exact hK _ _ (keeps_refl _) hI rfl
                  · intro _ a w1 vs hI ho hn hu K hK
                    obtain ⟨e23, g23⟩ : a.tmps[23]? = some (vs 8) ∧ vs 8 = .int .i64 (k : Int) := hn 8 (by decide)
                    rw [g23] at e23
                    clear g23
                    clear hn ho hu
                    have q1 := HG.out.1
                    have q2 := HG.out.2
                    go_simp
                    exact hK _ _ (keeps_refl _) hI rfl
                  · intro _ a w1 vs hI ho hn hu K hK
                    obtain ⟨e24, g24⟩ : a.tmps[24]? = some (vs 9) ∧ vs 9 = .bool true := hn 9 (by decide)
                    rw [g24] at e24
                    clear g24
                    clear hn ho hu
                    go_simp
                    exact hK _ _ (keeps_refl _) hI rfl
                  · intro _ a w1 vs hI ho hn hu K hK
                    have e0 : a.tmps[0]? = some (.slice (some ⟨b1, o1, none⟩) n q) := ho 0 rfl
                    clear hn ho hu
                    go_simp
                    exact hK _ _ (keeps_refl _) hI rfl
                  · intro _ a w1 vs hI ho hn hu K hK
                    have e3 : a.tmps[3]? = some (.int .i64 (k : Int)) := ho 3 rfl
                    clear hn ho hu
                    go_simp
                    exact hK _ _ (keeps_refl _) hI rfl
                  · intro _ a w1 vs hI ho hn hu K hK
                    obtain ⟨e26, g26⟩ : a.tmps[26]? = some (vs 11) ∧ vs 11 = .slice (some ⟨b1, o1, none⟩) n q := hn 11 (by decide)
                    rw [g26] at e26
                    clear g26
                    obtain ⟨e27, g27⟩ : a.tmps[27]? = some (vs 12) ∧ vs 12 = .int .i64 (k : Int) := hn 12 (by decide)
                    rw [g27] at e27
                    clear g27
                    clear hn ho hu
                    have i1 := HA.out.1
                    have i2 := HA.out.2
                    go_simp
                    exact hK _ _ (keeps_refl _) hI rfl
                  · intro _ a w1 vs hI ho hn hu K hK
                    obtain ⟨e28, g28⟩ : a.tmps[28]? = some (vs 13) ∧ vs 13 = .pointer (some ⟨b1, o1 + k * 3, none⟩) := hn 13 (by decide)
                    rw [g28] at e28
                    clear g28
                    clear hn ho hu
                    go_simp
                    exact hK _ _ (keeps_refl _) hI rfl
                  · intro _ a w1 vs hI ho hn hu K hK
                    obtain ⟨e29, g29⟩ : a.tmps[29]? = some (vs 14) ∧ vs 14 = .pointer (some ⟨b1, o1 + k * 3, none⟩) := hn 14 (by decide)
                    rw [g29] at e29
                    clear g29
                    clear hn ho hu
                    have c0 := keeps_cell hI P0.out
                    go_simp
                    exact hK _ _ (keeps_refl _) hI rfl
                  · intro _ a w1 vs hI ho hn hu K hK
                    have e0 : a.tmps[0]? = some (.slice (some ⟨b1, o1, none⟩) n q) := ho 0 rfl
                    clear hn ho hu
                    go_simp
                    exact hK _ _ (keeps_refl _) hI rfl
                  · intro _ a w1 vs hI ho hn hu K hK
                    have e3 : a.tmps[3]? = some (.int .i64 (k : Int)) := ho 3 rfl
                    clear hn ho hu
                    go_simp
                    exact hK _ _ (keeps_refl _) hI rfl
                  · intro _ a w1 vs hI ho hn hu K hK
                    obtain ⟨e32, g32⟩ : a.tmps[32]? = some (vs 17) ∧ vs 17 = .int .i64 (k : Int) := hn 17 (by decide)
                    rw [g32] at e32
                    clear g32
                    clear hn ho hu
                    have q1 := HW.out.1.resolve_left HK0.out
                    go_simp
                    exact hK _ _ (keeps_refl _) hI rfl
                  · intro _ a w1 vs hI ho hn hu K hK
                    obtain ⟨e31, g31⟩ : a.tmps[31]? = some (vs 16) ∧ vs 16 = .slice (some ⟨b1, o1, none⟩) n q := hn 16 (by decide)
                    rw [g31] at e31
                    clear g31
                    obtain ⟨e33, g33⟩ : a.tmps[33]? = some (vs 18) ∧ vs 18 = .int .i64 (kp : Int) := hn 18 (by decide)
                    rw [g33] at e33
                    clear g33
                    clear hn ho hu
                    have i1 := HB.out.1
                    have i2 := HB.out.2
                    go_simp
                    exact hK _ _ (keeps_refl _) hI rfl
                  · intro _ a w1 vs hI ho hn hu K hK
                    obtain ⟨e34, g34⟩ : a.tmps[34]? = some (vs 19) ∧ vs 19 = .pointer (some ⟨b1, o1 + kp * 3, none⟩) := hn 19 (by decide)
                    rw [g34] at e34
                    clear g34
                    clear hn ho hu
                    go_simp
                    exact hK _ _ (keeps_refl _) hI rfl
                  · intro _ a w1 vs hI ho hn hu K hK
                    obtain ⟨e35, g35⟩ : a.tmps[35]? = some (vs 20) ∧ vs 20 = .pointer (some ⟨b1, o1 + kp * 3, none⟩) := hn 20 (by decide)
                    rw [g35] at e35
                    clear g35
                    clear hn ho hu
                    have c0 := keeps_cell hI Q0.out
                    go_simp
                    exact hK _ _ (keeps_refl _) hI rfl
                  · intro _ a w1 vs hI ho hn hu K hK
                    obtain ⟨e30, g30⟩ : a.tmps[30]? = some (vs 15) ∧ vs 15 = .string P := hn 15 (by decide)
                    rw [g30] at e30
                    clear g30
                    obtain ⟨e36, g36⟩ : a.tmps[36]? = some (vs 21) ∧ vs 21 = .string Pp := hn 21 (by decide)
                    rw [g36] at e36
                    clear g36
                    clear hn ho hu
                    have q1 := HLE.out
                    go_simp
                    exact hK _ _ (keeps_refl _) hI rfl
                  · intro _ a w1 vs hI ho hn hu K hK
                    obtain ⟨e25, g25⟩ : a.tmps[25]? = some (vs 10) ∧ vs 10 = .bool true := hn 10 (by decide)
                    rw [g25] at e25
                    clear g25
                    obtain ⟨e37, g37⟩ : a.tmps[37]? = some (vs 22) ∧ vs 22 = .bool false := hn 22 (by decide)
                    rw [g37] at e37
                    clear g37
                    clear hn ho hu
                    go_simp
                    exact hK _ _ (keeps_refl _) hI rfl
                  · intro _ a w1 vs hI ho hn hu K hK
                    obtain ⟨e22, g22⟩ : a.tmps[22]? = some (vs 7) ∧ vs 7 = .bool false := hn 7 (by decide)
                    rw [g22] at e22
                    clear g22
                    obtain ⟨e38, g38⟩ : a.tmps[38]? = some (vs 23) ∧ vs 23 = .bool false := hn 23 (by decide)
                    rw [g38] at e38
                    clear g38
                    clear hn ho hu
                    go_simp
                    exact hK _ _ (keeps_refl _) hI rfl
                  · intro _ a w1 vs hI ho hn hu K hK
                    obtain ⟨e39, g39⟩ : a.tmps[39]? = some (vs 24) ∧ vs 24 = .bool false := hn 24 (by decide)
                    rw [g39] at e39
                    clear g39
                    clear hn ho hu
                    go_simp
                    exact hK _ _ (keeps_refl _) hI rfl
                  · intro _ a w1 vs hI ho hn hu K hK
                    have e0 : a.tmps[0]? = some (.slice (some ⟨b1, o1, none⟩) n q) := ho 0 rfl
                    clear hn ho hu
                    go_simp
                    exact hK _ _ (keeps_refl _) hI rfl
                  · intro _ a w1 vs hI ho hn hu K hK
                    have e3 : a.tmps[3]? = some (.int .i64 (k : Int)) := ho 3 rfl
                    clear hn ho hu
                    go_simp
                    exact hK _ _ (keeps_refl _) hI rfl
                  · intro _ a w1 vs hI ho hn hu K hK
                    obtain ⟨e41, g41⟩ : a.tmps[41]? = some (vs 26) ∧ vs 26 = .slice (some ⟨b1, o1, none⟩) n q := hn 26 (by decide)
                    rw [g41] at e41
                    clear g41
                    obtain ⟨e42, g42⟩ : a.tmps[42]? = some (vs 27) ∧ vs 27 = .int .i64 (k : Int) := hn 27 (by decide)
                    rw [g42] at e42
                    clear g42
                    clear hn ho hu
                    have i1 := HA.out.1
                    have i2 := HA.out.2
                    go_simp
                    exact hK _ _ (keeps_refl _) hI rfl
                  · intro _ a w1 vs hI ho hn hu K hK
                    obtain ⟨e43, g43⟩ : a.tmps[43]? = some (vs 28) ∧ vs 28 = .pointer (some ⟨b1, o1 + k * 3, none⟩) := hn 28 (by decide)
                    rw [g43] at e43
                    clear g43
                    clear hn ho hu
                    go_simp
                    exact hK _ _ (keeps_refl _) hI rfl
                  · intro _ a w1 vs hI ho hn hu K hK
                    obtain ⟨e44, g44⟩ : a.tmps[44]? = some (vs 29) ∧ vs 29 = .pointer (some ⟨b1, o1 + k * 3 + 2, none⟩) := hn 29 (by decide)
                    rw [g44] at e44
                    clear g44
                    clear hn ho hu
                    have c0 := keeps_cell hI T2.out
                    go_simp
                    exact hK _ _ (keeps_refl _) hI rfl
                  · intro _ a w1 vs hI ho hn hu K hK
                    obtain ⟨e45, g45⟩ : a.tmps[45]? = some (vs 30) ∧ vs 30 = .string T := hn 30 (by decide)
                    rw [g45] at e45
                    clear g45
                    clear hn ho hu
                    go_simp
                    exact hK _ _ (keeps_refl _) hI rfl
                  · intro _ a w1 vs hI ho hn hu K hK
                    obtain ⟨e46, g46⟩ : a.tmps[46]? = some (vs 31) ∧ vs 31 = .int .i64 (T.size : Int) := hn 31 (by decide)
                    rw [g46] at e46
                    clear g46
                    clear hn ho hu
                    have q1 := HBG.out
                    go_simp
                    exact hK _ _ (keeps_refl _) hI rfl
                  · intro _ a w1 vs hI ho hn hu K hK
                    obtain ⟨e40, g40⟩ : a.tmps[40]? = some (vs 25) ∧ vs 25 = .bool false := hn 25 (by decide)
                    rw [g40] at e40
                    clear g40
                    obtain ⟨e47, g47⟩ : a.tmps[47]? = some (vs 32) ∧ vs 32 = .bool false := hn 32 (by decide)
                    rw [g47] at e47
                    clear g47
                    clear hn ho hu
                    go_simp
                    exact hK _ _ (keeps_refl _) hI rfl
                  · intro _ a w1 vs hI ho hn hu K hK
                    obtain ⟨e48, g48⟩ : a.tmps[48]? = some (vs 33) ∧ vs 33 = .bool false := hn 33 (by decide)
                    rw [g48] at e48
                    clear g48
                    clear hn ho hu
                    go_simp
                    exact hK _ _ (keeps_refl _) hI rfl
                  · intro _ a w1 vs hI ho hn hu K hK
                    have e0 : a.tmps[0]? = some (.slice (some ⟨b1, o1, none⟩) n q) := ho 0 rfl
                    clear hn ho hu
                    go_simp
                    exact hK _ _ (keeps_refl _) hI rfl
                  · intro _ a w1 vs hI ho hn hu K hK
                    have e3 : a.tmps[3]? = some (.int .i64 (k : Int)) := ho 3 rfl
                    clear hn ho hu
                    go_simp
                    exact hK _ _ (keeps_refl _) hI rfl
                  · intro _ a w1 vs hI ho hn hu K hK
                    obtain ⟨e50, g50⟩ : a.tmps[50]? = some (vs 35) ∧ vs 35 = .slice (some ⟨b1, o1, none⟩) n q := hn 35 (by decide)
                    rw [g50] at e50
                    clear g50
                    obtain ⟨e51, g51⟩ : a.tmps[51]? = some (vs 36) ∧ vs 36 = .int .i64 (k : Int) := hn 36 (by decide)
                    rw [g51] at e51
                    clear g51
                    clear hn ho hu
                    have i1 := HA.out.1
                    have i2 := HA.out.2
                    go_simp
                    exact hK _ _ (keeps_refl _) hI rfl
                  · intro _ a w1 vs hI ho hn hu K hK
                    obtain ⟨e52, g52⟩ : a.tmps[52]? = some (vs 37) ∧ vs 37 = .pointer (some ⟨b1, o1 + k * 3, none⟩) := hn 37 (by decide)
                    rw [g52] at e52
                    clear g52
                    clear hn ho hu
                    go_simp
                    exact hK _ _ (keeps_refl _) hI rfl
                  · intro _ a w1 vs hI ho hn hu K hK
                    obtain ⟨e53, g53⟩ : a.tmps[53]? = some (vs 38) ∧ vs 38 = .pointer (some ⟨b1, o1 + k * 3 + 1, none⟩) := hn 38 (by decide)
                    rw [g53] at e53
                    clear g53
                    clear hn ho hu
                    have c0 := keeps_cell hI D1.out
                    go_simp
                    exact hK _ _ (keeps_refl _) hI rfl
                  · intro _ a w1 vs hI ho hn hu K hK
                    obtain ⟨e54, g54⟩ : a.tmps[54]? = some (vs 39) ∧ vs 39 = .bool false := hn 39 (by decide)
                    rw [g54] at e54
                    clear g54
                    clear hn ho hu
                    go_simp
                    exact hK _ _ (keeps_refl _) hI rfl
                  · intro hs; cases hs
                  · intro hs; cases hs
                  · intro hs; cases hs
                  · intro hs; cases hs
                  · intro hs; cases hs
                  · intro hs; cases hs
                  · intro _ a w1 vs hI ho hn hu K hK
                    obtain ⟨e55, g55⟩ : a.tmps[55]? = some (vs 40) ∧ vs 40 = .bool false := hn 40 (by decide)
                    rw [g55] at e55
                    clear g55
                    obtain ⟨e61, g61⟩ : a.tmps[61]? = some (vs 46) ∧ vs 46 = undef := hn 46 (by decide)
                    rw [g61] at e61
                    clear g61
                    clear hn ho hu
                    go_simp
                    exact hK _ _ (keeps_refl _) hI rfl
                  · intro _ a w1 vs hI ho hn hu K hK
                    obtain ⟨e49, g49⟩ : a.tmps[49]? = some (vs 34) ∧ vs 34 = .bool false := hn 34 (by decide)
                    rw [g49] at e49
                    clear g49
                    obtain ⟨e62, g62⟩ : a.tmps[62]? = some (vs 47) ∧ vs 47 = .bool false := hn 47 (by decide)
                    rw [g62] at e62
                    clear g62
                    clear hn ho hu
                    go_simp
                    exact hK _ _ (keeps_refl _) hI rfl
                · intro vs wE hI hG
                  have eL48 : vs 48 = .bool false := hG 48 (by decide)
                  have HKE := Lib.hid hI
                  clear hG hI
                  simp only [setAll, Nat.zero_add, Nat.reduceAdd, List.setIfInBounds_toArray, List.set_cons_zero, List.set_cons_succ, eL48]
                  clear eL48
                  generalize vs 0 = y0 at *
                  generalize vs 1 = y1 at *
                  generalize vs 2 = y2 at *
                  generalize vs 3 = y3 at *
                  generalize vs 4 = y4 at *
                  generalize vs 5 = y5 at *
                  generalize vs 6 = y6 at *
                  generalize vs 7 = y7 at *
                  generalize vs 8 = y8 at *
                  generalize vs 9 = y9 at *
                  generalize vs 10 = y10 at *
                  generalize vs 11 = y11 at *
                  generalize vs 12 = y12 at *
                  generalize vs 13 = y13 at *
                  generalize vs 14 = y14 at *
                  generalize vs 15 = y15 at *
                  generalize vs 16 = y16 at *
                  generalize vs 17 = y17 at *
                  generalize vs 18 = y18 at *
                  generalize vs 19 = y19 at *
                  generalize vs 20 = y20 at *
                  generalize vs 21 = y21 at *
                  generalize vs 22 = y22 at *
                  generalize vs 23 = y23 at *
                  generalize vs 24 = y24 at *
                  generalize vs 25 = y25 at *
                  generalize vs 26 = y26 at *
                  generalize vs 27 = y27 at *
                  generalize vs 28 = y28 at *
                  generalize vs 29 = y29 at *
                  generalize vs 30 = y30 at *
                  generalize vs 31 = y31 at *
                  generalize vs 32 = y32 at *
                  generalize vs 33 = y33 at *
                  generalize vs 34 = y34 at *
                  generalize vs 35 = y35 at *
                  generalize vs 36 = y36 at *
                  generalize vs 37 = y37 at *
                  generalize vs 38 = y38 at *
                  generalize vs 39 = y39 at *
                  generalize vs 40 = y40 at *
                  generalize vs 41 = y41 at *
                  generalize vs 42 = y42 at *
                  generalize vs 43 = y43 at *
                  generalize vs 44 = y44 at *
                  generalize vs 45 = y45 at *
                  generalize vs 46 = y46 at *
                  generalize vs 47 = y47 at *
                  have HKW := Lib.hid (hK.out.trans HKE.out)
                  have d0 := keeps_cell HKE.out P0.out
                  have HFW := Lib.hid (RecAt.keeps H.out HKW.out)
                  clear HKE
                  go_wp2_with fail
                  refine Calls.mono (HAB.out _) ?_
                  rintro e wz ⟨rfl, rfl⟩
                  cases I with
                  | false =>
                    have HN3 := Lib.hid (HN2.out (by rw [HOK.out]; rfl))
                    go_wp2_with fail
                    refine ⟨?_, by simp [intOf]; omega⟩
                    first | exact ⟨k + 1, by omega, by go_num, HN3, HKW⟩ | ((repeat apply Exists.intro); exact ⟨⟨k + 1, by omega, by go_num, HN3, HKW⟩, rfl⟩)
                  | true =>
                    have HDI := Lib.hid (fun wx (hf : FilesAt wx.heap (.slice (some ⟨b1, o1, none⟩) n q) l) => rdir_any _ l U wx hf)
                    generalize dirIn l U = y at *
                    go_wp2_with fail
                    refine Calls.mono (HDI.out _ HFW.out) ?_
                    rintro e wy ⟨rfl, rfl⟩
                    cases y with
                    | false =>
                      have HT2 := Lib.hid (HF.out (by rw [HOK.out]; rfl))
                      go_wp2_with fail
                      go_ret
                      exact ⟨by rw [HT2.out]; rfl, HKW.out⟩
                    | true =>
                      have HN3 := Lib.hid (HN2.out (by rw [HOK.out]; rfl))
                      go_wp2_with fail
                      refine ⟨?_, by simp [intOf]; omega⟩
                      first | exact ⟨k + 1, by omega, by go_num, HN3, HKW⟩ | ((repeat apply Exists.intro); exact ⟨⟨k + 1, by omega, by go_num, HN3, HKW⟩, rfl⟩)
              | true =>
                by_cases ht : T.size = 0
                · have HTE := Lib.hid (empty_facts ht)
                  have HOK : Hid (okR l k = (!I || dirIn l U)) := by show _ = _; rw [HWK.out, hz2]; simp [ht]
                  clear hz hz2 ht
                  go_wp2_with fail
                  refine wp_region_stage [15, 16, 17, 18, 19, 20, 21, 22, 23, 24, 25, 26, 27, 28, 29, 30, 31, 32, 33, 34, 35, 36, 37, 38, 39, 40, 41, 42, 43, 44, 45, 46, 47, 48, 49, 50, 51, 52, 53, 54, 55, 56, 57, 58, 59, 60, 61, 62, 63] [[], [], [0, 1], [2], [3], [4], [5], [6], [7], [7, 8], [7, 9], [10], [10], [10, 11, 12], [10, 13], [10, 14], [10], [10], [10, 17], [10, 16, 18], [10, 19], [10, 20], [10, 15, 21], [7, 10, 22], [7, 23], [24], [25], [25], [25, 26, 27], [25, 28], [25, 29], [25, 30], [25, 31], [25, 32], [33], [34], [34], [34, 35, 36], [34, 37], [34, 38], [34, 39], [40], [40], [40, 41, 42], [40, 43], [40, 44], [40, 45], [34, 40, 46], [34, 47]] [] [0, 0, 0, 0, 0, 0, 0, 0, 0, 0, 0, 0, 0, 0, 0, 0, 0, 0, 0, 0, 0, 0, 0, 0, 0, 0, 0, 0, 0, 0, 0, 0, 0, 0, 0, 0, 0, 0, 0, 0, 0, 0, 0, 0, 0, 0, 0, 0, 0] [] (fun i v _ => rtrYd b1 o1 n q k kp P Pp T i v) (fun w w' => Keeps w w') (fun _ _ w' => Keeps wr w') (by kernel_rfl) (by kernel_rfl) (by kernel_rfl) (by kernel_rfl) (by kernel_rfl) (by kernel_rfl) (by kernel_rfl) ?_ ?_ ?_ ?_ ?_ ?_ ?_
                  · exact fun i v w w' c h => h
                  · exact fun w => keeps_refl w
                  · exact fun i s vs w _ h => h
                  · refine ⟨?_, ?_, ?_, ?_, ?_, ?_, ?_, ?_, ?_, ?_, ?_, ?_, ?_, ?_, ?_, ?_, ?_, ?_, ?_, ?_, ?_, ?_, ?_, ?_, ?_, ?_, ?_, ?_, ?_, ?_, ?_, ?_, ?_, ?_, ?_, ?_, ?_, ?_, ?_, ?_, ?_, ?_, ?_, ?_, ?_, ?_, ?_, ?_, ?_, trivial⟩
                    · exact fun g b h => by (cases h)
                    · exact fun g b h => by (cases h)
                    · exact fun g b h => by (cases h)
                    · exact fun g b h => by (cases h)
                    · exact fun g b h => by (cases h)
                    · exact fun g b h => by (cases h)
                    · exact fun g b h => by (cases h)
                    · exact fun g b h => by (cases h)
                    · exact fun g b h => by (cases h; exact ⟨by decide, fun v w h => h⟩)
                    · exact fun g b h => by (cases h; exact ⟨by decide, fun v w h => h⟩)
                    · exact fun g b h => by (cases h; exact ⟨by decide, fun v w h => h⟩)
                    · exact fun g b h => by (cases h; exact ⟨by decide, fun v w h => h⟩)
                    · exact fun g b h => by (cases h; exact ⟨by decide, fun v w h => h⟩)
                    · exact fun g b h => by (cases h; exact ⟨by decide, fun v w h => h⟩)
                    · exact fun g b h => by (cases h; exact ⟨by decide, fun v w h => h⟩)
                    · exact fun g b h => by (cases h; exact ⟨by decide, fun v w h => h⟩)
                    · exact fun g b h => by (cases h; exact ⟨by decide, fun v w h => h⟩)
                    · exact fun g b h => by (cases h; exact ⟨by decide, fun v w h => h⟩)
                    · exact fun g b h => by (cases h; exact ⟨by decide, fun v w h => h⟩)
                    · exact fun g b h => by (cases h; exact ⟨by decide, fun v w h => h⟩)
                    · exact fun g b h => by (cases h; exact ⟨by decide, fun v w h => h⟩)
                    · exact fun g b h => by (cases h; exact ⟨by decide, fun v w h => h⟩)
                    · exact fun g b h => by (cases h; exact ⟨by decide, fun v w h => h⟩)
                    · exact fun g b h => by (cases h; exact ⟨by decide, fun v w h => h⟩)
                    · exact fun g b h => by (cases h)
                    · exact fun g b h => by (cases h)
                    · exact fun g b h => by (cases h; exact ⟨by decide, fun v w h => h⟩)
                    · exact fun g b h => by (cases h; exact ⟨by decide, fun v w h => h⟩)
                    · exact fun g b h => by (cases h; exact ⟨by decide, fun v w h => h⟩)
                    · exact fun g b h => by (cases h; exact ⟨by decide, fun v w h => h⟩)
                    · exact fun g b h => by (cases h; exact ⟨by decide, fun v w h => h⟩)
                    · exact fun g b h => by (cases h; exact ⟨by decide, fun v w h => h⟩)
                    · exact fun g b h => by (cases h; exact ⟨by decide, fun v w h => h⟩)
                    · exact fun g b h => by (cases h)
                    · exact fun g b h => by (cases h)
                    · exact fun g b h => by (cases h; exact ⟨by decide, fun v w h => h⟩)
                    · exact fun g b h => by (cases h; exact ⟨by decide, fun v w h => h⟩)
                    · exact fun g b h => by (cases h; exact ⟨by decide, fun v w h => h⟩)
                    · exact fun g b h => by (cases h; exact ⟨by decide, fun v w h => h⟩)
                    · exact fun g b h => by (cases h; exact ⟨by decide, fun v w h => h⟩)
                    · exact fun g b h => by (cases h; exact ⟨by decide, fun v w h => h⟩)
                    · exact fun g b h => by (cases h; exact ⟨by decide, fun v w h => h⟩)
                    · exact fun g b h => by (cases h; exact ⟨by decide, fun v w h => h⟩)
                    · exact fun g b h => by (cases h; exact ⟨by decide, fun v w h => h⟩)
                    · exact fun g b h => by (cases h; exact ⟨by decide, fun v w h => h⟩)
                    · exact fun g b h => by (cases h; exact ⟨by decide, fun v w h => h⟩)
                    · exact fun g b h => by (cases h; exact ⟨by decide, fun v w h => h⟩)
                    · exact fun g b h => by (cases h; exact ⟨by decide, fun v w h => h⟩)
                    · exact fun g b h => by (cases h)
                  · exact fun _ _ => keeps_refl wr
                  · refine ⟨?_, ?_, ?_, ?_, ?_, ?_, ?_, ?_, ?_, ?_, ?_, ?_, ?_, ?_, ?_, ?_, ?_, ?_, ?_, ?_, ?_, ?_, ?_, ?_, ?_, ?_, ?_, ?_, ?_, ?_, ?_, ?_, ?_, ?_, ?_, ?_, ?_, ?_, ?_, ?_, ?_, ?_, ?_, ?_, ?_, ?_, ?_, ?_, ?_, trivial⟩
                    · intro _ a w1 vs hI ho hn hu K hK
                      have e0 : a.tmps[0]? = some (.slice (some ⟨b1, o1, none⟩) n q) := ho 0 rfl
                      clear hn ho hu
                      go_simp
                      exact hK _ _ (keeps_refl _) hI rfl
                    · intro _ a w1 vs hI ho hn hu K hK
                      have e3 : a.tmps[3]? = some (.int .i64 (k : Int)) := ho 3 rfl
                      clear hn ho hu
                      go_simp
                      exact hK _ _ (keeps_refl _) hI rfl
                    · intro _ a w1 vs hI ho hn hu K hK
                      obtain ⟨e15, g15⟩ : a.tmps[15]? = some (vs 0) ∧ vs 0 = .slice (some ⟨b1, o1, none⟩) n q := hn 0 (by decide)
                      rw [g15] at e15
                      clear g15
                      obtain ⟨e16, g16⟩ : a.tmps[16]? = some (vs 1) ∧ vs 1 = .int .i64 (k : Int) := hn 1 (by decide)
                      rw [g16] at e16
                      clear g16
                      clear hn ho hu
                      have i1 := HA.out.1
                      have i2 := HA.out.2
                      go_simp
                      exact hK _ _ (keeps_refl _) hI rfl
                    · intro _ a w1 vs hI ho hn hu K hK
                      obtain ⟨e17, g17⟩ : a.tmps[17]? = some (vs 2) ∧ vs 2 = .pointer (some ⟨b1, o1 + k * 3, none⟩) := hn 2 (by decide)
                      rw [g17] at e17
                      clear g17
                      clear hn ho hu
                      go_simp
                      exact hK _ _ (keeps_refl _) hI rfl
                    · intro _ a w1 vs hI ho hn hu K hK
                      obtain ⟨e18, g18⟩ : a.tmps[18]? = some (vs 3) ∧ vs 3 = .pointer (some ⟨b1, o1 + k * 3, none⟩) := hn 3 (by decide)
                      rw [g18] at e18
                      clear g18
                      clear hn ho hu
                      have c0 := keeps_cell hI P0.out
                      go_simp
                      exact hK _ _ (keeps_refl _) hI rfl
                    · intro _ a w1 vs hI ho hn hu K hK
                      obtain ⟨e19, g19⟩ : a.tmps[19]? = some (vs 4) ∧ vs 4 = .string P := hn 4 (by decide)
                      rw [g19] at e19
                      clear g19
                      clear hn ho hu
                      go_simp
                      refine Calls.mono (HMY.out _) ?_
                      rintro e w' ⟨rfl, hk2⟩
                      go_simp
                      exact hK _ _ hk2 (Keeps.trans hI hk2) rfl
                    · intro _ a w1 vs hI ho hn hu K hK
                      obtain ⟨e20, g20⟩ : a.tmps[20]? = some (vs 5) ∧ vs 5 = .bool true := hn 5 (by decide)
                      rw [g20] at e20
                      clear g20
                      clear hn ho hu
                      go_simp
                      exact hK _ _ (keeps_refl _) hI rfl
                    · intro _ a w1 vs hI ho hn hu K hK
                      obtain ⟨e21, g21⟩ : a.tmps[21]? = some (vs 6) ∧ vs 6 = .bool false := hn 6 (by decide)
                      rw [g21] at e21
                      clear g21
                      clear hn ho hu
                      go_simp
                      exact hK _ _ (keeps_refl _) hI rfl
                    · intro _ a w1 vs hI ho hn hu K hK
                      have e3 : a.tmps[3]? = some (.int .i64 (k : Int)) := ho 3 rfl
                      clear hn ho hu
                      go_simp
                      exact hK _ _ (keeps_refl _) hI rfl
                    · intro _ a w1 vs hI ho hn hu K hK
                      obtain ⟨e23, g23⟩ : a.tmps[23]? = some (vs 8) ∧ vs 8 = .int .i64 (k : Int) := hn 8 (by decide)
                      rw [g23] at e23
                      clear g23
                      clear hn ho hu
                      have q1 := HG.out.1
                      have q2 := HG.out.2
                      go_simp
                      exact hK _ _ (keeps_refl _) hI rfl
                    · intro _ a w1 vs hI ho hn hu K hK
                      obtain ⟨e24, g24⟩ : a.tmps[24]? = some (vs 9) ∧ vs 9 = .bool true := hn 9 (by decide)
                      rw [g24] at e24
                      clear g24
                      clear hn ho hu
                      go_simp
                      exact hK _ _ (keeps_refl _) hI rfl
                    · intro _ a w1 vs hI ho hn hu K hK
                      have e0 : a.tmps[0]? = some (.slice (some ⟨b1, o1, none⟩) n q) := ho 0 rfl
                      clear hn ho hu
                      go_simp
                      exact hK _ _ (keeps_refl _) hI rfl
                    · intro _ a w1 vs hI ho hn hu K hK
                      have e3 : a.tmps[3]? = some (.int .i64 (k : Int)) := ho 3 rfl
                      clear hn ho hu
                      go_simp
                      exact hK _ _ (keeps_refl _) hI rfl
                    · intro _ a w1 vs hI ho hn hu K hK
                      obtain ⟨e26, g26⟩ : a.tmps[26]? = some (vs 11) ∧ vs 11 = .slice (some ⟨b1, o1, none⟩) n q := hn 11 (by decide)
                      rw [g26] at e26
                      clear g26
                      obtain ⟨e27, g27⟩ : a.tmps[27]? = some (vs 12) ∧ vs 12 = .int .i64 (k : Int) := hn 12 (by decide)
                      rw [g27] at e27
                      clear g27
                      clear hn ho hu
                      have i1 := HA.out.1
                      have i2 := HA.out.2
                      go_simp
                      exact hK _ _ (keeps_refl _) hI rfl
                    · intro _ a w1 vs hI ho hn hu K hK
                      obtain ⟨e28, g28⟩ : a.tmps[28]? = some (vs 13) ∧ vs 13 = .pointer (some ⟨b1, o1 + k * 3, none⟩) := hn 13 (by decide)
                      rw [g28] at e28
                      clear g28
                      clear hn ho hu
                      go_simp
                      exact hK _ _ (keeps_refl _) hI rfl
                    · intro _ a w1 vs hI ho hn hu K hK
                      obtain ⟨e29, g29⟩ : a.tmps[29]? = some (vs 14) ∧ vs 14 = .pointer (some ⟨b1, o1 + k * 3, none⟩) := hn 14 (by decide)
                      rw [g29] at e29
                      clear g29
                      clear hn ho hu
                      have c0 := keeps_cell hI P0.out
                      go_simp
                      exact hK _ _ (keeps_refl _) hI rfl
                    · intro _ a w1 vs hI ho hn hu K hK
                      have e0 : a.tmps[0]? = some (.slice (some ⟨b1, o1, none⟩) n q) := ho 0 rfl
                      clear hn ho hu
                      go_simp
                      exact hK _ _ (keeps_refl _) hI rfl
                    · intro _ a w1 vs hI ho hn hu K hK
                      have e3 : a.tmps[3]? = some (.int .i64 (k : Int)) := ho 3 rfl
                      clear hn ho hu
                      go_simp
                      exact hK _ _ (keeps_refl _) hI rfl
                    · intro _ a w1 vs hI ho hn hu K hK
                      obtain ⟨e32, g32⟩ : a.tmps[32]? = some (vs 17) ∧ vs 17 = .int .i64 (k : Int) := hn 17 (by decide)
                      rw [g32] at e32
                      clear g32
                      clear hn ho hu
                      have q1 := HW.out.1.resolve_left HK0.out
                      go_simp
                      exact hK _ _ (keeps_refl _) hI rfl
                    · intro _ a w1 vs hI ho hn hu K hK
                      obtain ⟨e31, g31⟩ : a.tmps[31]? = some (vs 16) ∧ vs 16 = .slice (some ⟨b1, o1, none⟩) n q := hn 16 (by decide)
                      rw [g31] at e31
                      clear g31
                      obtain ⟨e33, g33⟩ : a.tmps[33]? = some (vs 18) ∧ vs 18 = .int .i64 (kp : Int) := hn 18 (by decide)
                      rw [g33] at e33
                      clear g33
                      clear hn ho hu
                      have i1 := HB.out.1
                      have i2 := HB.out.2
                      go_simp
                      exact hK _ _ (keeps_refl _) hI rfl
                    · intro _ a w1 vs hI ho hn hu K hK
                      obtain ⟨e34, g34⟩ : a.tmps[34]? = some (vs 19) ∧ vs 19 = .pointer (some ⟨b1, o1 + kp * 3, none⟩) := hn 19 (by decide)
                      rw [g34] at e34
                      clear g34
                      clear hn ho hu
                      go_simp
                      exact hK _ _ (keeps_refl _) hI rfl
                    · intro _ a w1 vs hI ho hn hu K hK
                      obtain ⟨e35, g35⟩ : a.tmps[35]? = some (vs 20) ∧ vs 20 = .pointer (some ⟨b1, o1 + kp * 3, none⟩) := hn 20 (by decide)
                      rw [g35] at e35
                      clear g35
                      clear hn ho hu
                      have c0 := keeps_cell hI Q0.out
                      go_simp
                      exact hK _ _ (keeps_refl _) hI rfl
                    · intro _ a w1 vs hI ho hn hu K hK
                      obtain ⟨e30, g30⟩ : a.tmps[30]? = some (vs 15) ∧ vs 15 = .string P := hn 15 (by decide)
                      rw [g30] at e30
                      clear g30
                      obtain ⟨e36, g36⟩ : a.tmps[36]? = some (vs 21) ∧ vs 21 = .string Pp := hn 21 (by decide)
                      rw [g36] at e36
                      clear g36
                      clear hn ho hu
                      have q1 := HLE.out
                      go_simp
                      exact hK _ _ (keeps_refl _) hI rfl
                    · intro _ a w1 vs hI ho hn hu K hK
                      obtain ⟨e25, g25⟩ : a.tmps[25]? = some (vs 10) ∧ vs 10 = .bool true := hn 10 (by decide)
                      rw [g25] at e25
                      clear g25
                      obtain ⟨e37, g37⟩ : a.tmps[37]? = some (vs 22) ∧ vs 22 = .bool false := hn 22 (by decide)
                      rw [g37] at e37
                      clear g37
                      clear hn ho hu
                      go_simp
                      exact hK _ _ (keeps_refl _) hI rfl
                    · intro _ a w1 vs hI ho hn hu K hK
                      obtain ⟨e22, g22⟩ : a.tmps[22]? = some (vs 7) ∧ vs 7 = .bool false := hn 7 (by decide)
                      rw [g22] at e22
                      clear g22
                      obtain ⟨e38, g38⟩ : a.tmps[38]? = some (vs 23) ∧ vs 23 = .bool false := hn 23 (by decide)
                      rw [g38] at e38
                      clear g38
                      clear hn ho hu
                      go_simp
                      exact hK _ _ (keeps_refl _) hI rfl
                    · intro _ a w1 vs hI ho hn hu K hK
                      obtain ⟨e39, g39⟩ : a.tmps[39]? = some (vs 24) ∧ vs 24 = .bool false := hn 24 (by decide)
                      rw [g39] at e39
                      clear g39
                      clear hn ho hu
                      go_simp
                      exact hK _ _ (keeps_refl _) hI rfl
                    · intro _ a w1 vs hI ho hn hu K hK
                      have e0 : a.tmps[0]? = some (.slice (some ⟨b1, o1, none⟩) n q) := ho 0 rfl
                      clear hn ho hu
                      go_simp
                      exact hK _ _ (keeps_refl _) hI rfl
                    · intro _ a w1 vs hI ho hn hu K hK
                      have e3 : a.tmps[3]? = some (.int .i64 (k : Int)) := ho 3 rfl
                      clear hn ho hu
                      go_simp
                      exact hK _ _ (keeps_refl _) hI rfl
                    · intro _ a w1 vs hI ho hn hu K hK
                      obtain ⟨e41, g41⟩ : a.tmps[41]? = some (vs 26) ∧ vs 26 = .slice (some ⟨b1, o1, none⟩) n q := hn 26 (by decide)
                      rw [g41] at e41
                      clear g41
                      obtain ⟨e42, g42⟩ : a.tmps[42]? = some (vs 27) ∧ vs 27 = .int .i64 (k : Int) := hn 27 (by decide)
                      rw [g42] at e42
                      clear g42
                      clear hn ho hu
                      have i1 := HA.out.1
                      have i2 := HA.out.2
                      go_simp
                      exact hK _ _ (keeps_refl _) hI rfl
                    · intro _ a w1 vs hI ho hn hu K hK
                      obtain ⟨e43, g43⟩ : a.tmps[43]? = some (vs 28) ∧ vs 28 = .pointer (some ⟨b1, o1 + k * 3, none⟩) := hn 28 (by decide)
                      rw [g43] at e43
                      clear g43
                      clear hn ho hu
                      go_simp
                      exact hK _ _ (keeps_refl _) hI rfl
                    · intro _ a w1 vs hI ho hn hu K hK
                      obtain ⟨e44, g44⟩ : a.tmps[44]? = some (vs 29) ∧ vs 29 = .pointer (some ⟨b1, o1 + k * 3 + 2, none⟩) := hn 29 (by decide)
                      rw [g44] at e44
                      clear g44
                      clear hn ho hu
                      have c0 := keeps_cell hI T2.out
                      go_simp
                      exact hK _ _ (keeps_refl _) hI rfl
                    · intro _ a w1 vs hI ho hn hu K hK
                      obtain ⟨e45, g45⟩ : a.tmps[45]? = some (vs 30) ∧ vs 30 = .string T := hn 30 (by decide)
                      rw [g45] at e45
                      clear g45
                      clear hn ho hu
                      go_simp
                      exact hK _ _ (keeps_refl _) hI rfl
                    · intro _ a w1 vs hI ho hn hu K hK
                      obtain ⟨e46, g46⟩ : a.tmps[46]? = some (vs 31) ∧ vs 31 = .int .i64 (T.size : Int) := hn 31 (by decide)
                      rw [g46] at e46
                      clear g46
                      clear hn ho hu
                      have q1 := HBG.out
                      go_simp
                      exact hK _ _ (keeps_refl _) hI rfl
                    · intro _ a w1 vs hI ho hn hu K hK
                      obtain ⟨e40, g40⟩ : a.tmps[40]? = some (vs 25) ∧ vs 25 = .bool false := hn 25 (by decide)
                      rw [g40] at e40
                      clear g40
                      obtain ⟨e47, g47⟩ : a.tmps[47]? = some (vs 32) ∧ vs 32 = .bool false := hn 32 (by decide)
                      rw [g47] at e47
                      clear g47
                      clear hn ho hu
                      go_simp
                      exact hK _ _ (keeps_refl _) hI rfl
                    · intro _ a w1 vs hI ho hn hu K hK
                      obtain ⟨e48, g48⟩ : a.tmps[48]? = some (vs 33) ∧ vs 33 = .bool false := hn 33 (by decide)
                      rw [g48] at e48
                      clear g48
                      clear hn ho hu
                      go_simp
                      exact hK _ _ (keeps_refl _) hI rfl
                    · intro _ a w1 vs hI ho hn hu K hK
                      have e0 : a.tmps[0]? = some (.slice (some ⟨b1, o1, none⟩) n q) := ho 0 rfl
                      clear hn ho hu
                      go_simp
                      exact hK _ _ (keeps_refl _) hI rfl
                    · intro _ a w1 vs hI ho hn hu K hK
                      have e3 : a.tmps[3]? = some (.int .i64 (k : Int)) := ho 3 rfl
                      clear hn ho hu
                      go_simp
                      exact hK _ _ (keeps_refl _) hI rfl
                    · intro _ a w1 vs hI ho hn hu K hK
                      obtain ⟨e50, g50⟩ : a.tmps[50]? = some (vs 35) ∧ vs 35 = .slice (some ⟨b1, o1, none⟩) n q := hn 35 (by decide)
                      rw [g50] at e50
                      clear g50
                      obtain ⟨e51, g51⟩ : a.tmps[51]? = some (vs 36) ∧ vs 36 = .int .i64 (k : Int) := hn 36 (by decide)
                      rw [g51] at e51
                      clear g51
                      clear hn ho hu
                      have i1 := HA.out.1
                      have i2 := HA.out.2
                      go_simp
                      exact hK _ _ (keeps_refl _) hI rfl
                    · intro _ a w1 vs hI ho hn hu K hK
                      obtain ⟨e52, g52⟩ : a.tmps[52]? = some (vs 37) ∧ vs 37 = .pointer (some ⟨b1, o1 + k * 3, none⟩) := hn 37 (by decide)
                      rw [g52] at e52
                      clear g52
                      clear hn ho hu
                      go_simp
                      exact hK _ _ (keeps_refl _) hI rfl
                    · intro _ a w1 vs hI ho hn hu K hK
                      obtain ⟨e53, g53⟩ : a.tmps[53]? = some (vs 38) ∧ vs 38 = .pointer (some ⟨b1, o1 + k * 3 + 1, none⟩) := hn 38 (by decide)
                      rw [g53] at e53
                      clear g53
                      clear hn ho hu
                      have c0 := keeps_cell hI D1.out
                      go_simp
                      exact hK _ _ (keeps_refl _) hI rfl
                    · intro _ a w1 vs hI ho hn hu K hK
                      obtain ⟨e54, g54⟩ : a.tmps[54]? = some (vs 39) ∧ vs 39 = .bool true := hn 39 (by decide)
                      rw [g54] at e54
                      clear g54
                      clear hn ho hu
                      go_simp
                      exact hK _ _ (keeps_refl _) hI rfl
                    · intro _ a w1 vs hI ho hn hu K hK
                      have e0 : a.tmps[0]? = some (.slice (some ⟨b1, o1, none⟩) n q) := ho 0 rfl
                      clear hn ho hu
                      go_simp
                      exact hK _ _ (keeps_refl _) hI rfl
                    · intro _ a w1 vs hI ho hn hu K hK
                      have e3 : a.tmps[3]? = some (.int .i64 (k : Int)) := ho 3 rfl
                      clear hn ho hu
                      go_simp
                      exact hK _ _ (keeps_refl _) hI rfl
                    · intro _ a w1 vs hI ho hn hu K hK
                      obtain ⟨e56, g56⟩ : a.tmps[56]? = some (vs 41) ∧ vs 41 = .slice (some ⟨b1, o1, none⟩) n q := hn 41 (by decide)
                      rw [g56] at e56
                      clear g56
                      obtain ⟨e57, g57⟩ : a.tmps[57]? = some (vs 42) ∧ vs 42 = .int .i64 (k : Int) := hn 42 (by decide)
                      rw [g57] at e57
                      clear g57
                      clear hn ho hu
                      have i1 := HA.out.1
                      have i2 := HA.out.2
                      go_simp
                      exact hK _ _ (keeps_refl _) hI rfl
                    · intro _ a w1 vs hI ho hn hu K hK
                      obtain ⟨e58, g58⟩ : a.tmps[58]? = some (vs 43) ∧ vs 43 = .pointer (some ⟨b1, o1 + k * 3, none⟩) := hn 43 (by decide)
                      rw [g58] at e58
                      clear g58
                      clear hn ho hu
                      go_simp
                      exact hK _ _ (keeps_refl _) hI rfl
                    · intro _ a w1 vs hI ho hn hu K hK
                      obtain ⟨e59, g59⟩ : a.tmps[59]? = some (vs 44) ∧ vs 44 = .pointer (some ⟨b1, o1 + k * 3 + 2, none⟩) := hn 44 (by decide)
                      rw [g59] at e59
                      clear g59
                      clear hn ho hu
                      have c0 := keeps_cell hI T2.out
                      go_simp
                      exact hK _ _ (keeps_refl _) hI rfl
                    · intro _ a w1 vs hI ho hn hu K hK
                      obtain ⟨e60, g60⟩ : a.tmps[60]? = some (vs 45) ∧ vs 45 = .string T := hn 45 (by decide)
                      rw [g60] at e60
                      clear g60
                      clear hn ho hu
                      have q1 := HTE.out.1
                      have q2 := HTE.out.2
                      go_simp
                      exact hK _ _ (keeps_refl _) hI rfl
                    · intro _ a w1 vs hI ho hn hu K hK
                      obtain ⟨e55, g55⟩ : a.tmps[55]? = some (vs 40) ∧ vs 40 = .bool true := hn 40 (by decide)
                      rw [g55] at e55
                      clear g55
                      obtain ⟨e61, g61⟩ : a.tmps[61]? = some (vs 46) ∧ vs 46 = .bool false := hn 46 (by decide)
                      rw [g61] at e61
                      clear g61
                      clear hn ho hu
                      go_simp
                      exact hK _ _ (keeps_refl _) hI rfl
                    · intro _ a w1 vs hI ho hn hu K hK
                      obtain ⟨e49, g49⟩ : a.tmps[49]? = some (vs 34) ∧ vs 34 = .bool false := hn 34 (by decide)
                      rw [g49] at e49
                      clear g49
                      obtain ⟨e62, g62⟩ : a.tmps[62]? = some (vs 47) ∧ vs 47 = .bool false := hn 47 (by decide)
                      rw [g62] at e62
                      clear g62
                      clear hn ho hu
                      go_simp
                      exact hK _ _ (keeps_refl _) hI rfl
                  · intro vs wE hI hG
                    have eL48 : vs 48 = .bool false := hG 48 (by decide)
                    have HKE := Lib.hid hI
                    clear hG hI
                    simp only [setAll, Nat.zero_add, Nat.reduceAdd, List.setIfInBounds_toArray, List.set_cons_zero, List.set_cons_succ, eL48]
                    clear eL48
                    generalize vs 0 = y0 at *
                    generalize vs 1 = y1 at *
                    generalize vs 2 = y2 at *
                    generalize vs 3 = y3 at *
                    generalize vs 4 = y4 at *
                    generalize vs 5 = y5 at *
                    generalize vs 6 = y6 at *
                    generalize vs 7 = y7 at *
                    generalize vs 8 = y8 at *
                    generalize vs 9 = y9 at *
                    generalize vs 10 = y10 at *
                    generalize vs 11 = y11 at *
                    generalize vs 12 = y12 at *
                    generalize vs 13 = y13 at *
                    generalize vs 14 = y14 at *
                    generalize vs 15 = y15 at *
                    generalize vs 16 = y16 at *
                    generalize vs 17 = y17 at *
                    generalize vs 18 = y18 at *
                    generalize vs 19 = y19 at *
                    generalize vs 20 = y20 at *
                    generalize vs 21 = y21 at *
                    generalize vs 22 = y22 at *
                    generalize vs 23 = y23 at *
                    generalize vs 24 = y24 at *
                    generalize vs 25 = y25 at *
                    generalize vs 26 = y26 at *
                    generalize vs 27 = y27 at *
                    generalize vs 28 = y28 at *
                    generalize vs 29 = y29 at *
                    generalize vs 30 = y30 at *
                    generalize vs 31 = y31 at *
                    generalize vs 32 = y32 at *
                    generalize vs 33 = y33 at *
                    generalize vs 34 = y34 at *
                    generalize vs 35 = y35 at *
                    generalize vs 36 = y36 at *
                    generalize vs 37 = y37 at *
                    generalize vs 38 = y38 at *
                    generalize vs 39 = y39 at *
                    generalize vs 40 = y40 at *
                    generalize vs 41 = y41 at *
                    generalize vs 42 = y42 at *
                    generalize vs 43 = y43 at *
                    generalize vs 44 = y44 at *
                    generalize vs 45 = y45 at *
                    generalize vs 46 = y46 at *
                    generalize vs 47 = y47 at *
                    have HKW := Lib.hid (hK.out.trans HKE.out)
                    have d0 := keeps_cell HKE.out P0.out
                    have HFW := Lib.hid (RecAt.keeps H.out HKW.out)
                    clear HKE
                    go_wp2_with fail
                    refine Calls.mono (HAB.out _) ?_
                    rintro e wz ⟨rfl, rfl⟩
                    cases I with
                    | false =>
                      have HN3 := Lib.hid (HN2.out (by rw [HOK.out]; rfl))
                      go_wp2_with fail
                      refine ⟨?_, by simp [intOf]; omega⟩
                      first | exact ⟨k + 1, by omega, by go_num, HN3, HKW⟩ | ((repeat apply Exists.intro); exact ⟨⟨k + 1, by omega, by go_num, HN3, HKW⟩, rfl⟩)
                    | true =>
                      have HDI := Lib.hid (fun wx (hf : FilesAt wx.heap (.slice (some ⟨b1, o1, none⟩) n q) l) => rdir_any _ l U wx hf)
                      generalize dirIn l U = y at *
                      go_wp2_with fail
                      refine Calls.mono (HDI.out _ HFW.out) ?_
                      rintro e wy ⟨rfl, rfl⟩
                      cases y with
                      | false =>
                        have HT2 := Lib.hid (HF.out (by rw [HOK.out]; rfl))
                        go_wp2_with fail
                        go_ret
                        exact ⟨by rw [HT2.out]; rfl, HKW.out⟩
                      | true =>
                        have HN3 := Lib.hid (HN2.out (by rw [HOK.out]; rfl))
                        go_wp2_with fail
                        refine ⟨?_, by simp [intOf]; omega⟩
                        first | exact ⟨k + 1, by omega, by go_num, HN3, HKW⟩ | ((repeat apply Exists.intro); exact ⟨⟨k + 1, by omega, by go_num, HN3, HKW⟩, rfl⟩)
                · have HTE := Lib.hid (full_facts ht)
                  have HT2 := Lib.hid (HF.out (by rw [HWK.out]; simp [ht]))
                  clear hz hz2 ht
                  go_wp2_with fail
                  refine wp_region_stage [15, 16, 17, 18, 19, 20, 21, 22, 23, 24, 25, 26, 27, 28, 29, 30, 31, 32, 33, 34, 35, 36, 37, 38, 39, 40, 41, 42, 43, 44, 45, 46, 47, 48, 49, 50, 51, 52, 53, 54, 55, 56, 57, 58, 59, 60, 61, 62, 63] [[], [], [0, 1], [2], [3], [4], [5], [6], [7], [7, 8], [7, 9], [10], [10], [10, 11, 12], [10, 13], [10, 14], [10], [10], [10, 17], [10, 16, 18], [10, 19], [10, 20], [10, 15, 21], [7, 10, 22], [7, 23], [24], [25], [25], [25, 26, 27], [25, 28], [25, 29], [25, 30], [25, 31], [25, 32], [33], [34], [34], [34, 35, 36], [34, 37], [34, 38], [34, 39], [40], [40], [40, 41, 42], [40, 43], [40, 44], [40, 45], [34, 40, 46], [34, 47]] [] [0, 0, 0, 0, 0, 0, 0, 0, 0, 0, 0, 0, 0, 0, 0, 0, 0, 0, 0, 0, 0, 0, 0, 0, 0, 0, 0, 0, 0, 0, 0, 0, 0, 0, 0, 0, 0, 0, 0, 0, 0, 0, 0, 0, 0, 0, 0, 0, 0] [] (fun i v _ => rtrYe b1 o1 n q k kp P Pp T i v) (fun w w' => Keeps w w') (fun _ _ w' => Keeps wr w') (by kernel_rfl) (by kernel_rfl) (by kernel_rfl) (by kernel_rfl) (by kernel_rfl) (by kernel_rfl) (by kernel_rfl) ?_ ?_ ?_ ?_ ?_ ?_ ?_
                  · exact fun i v w w' c h => h
                  · exact fun w => keeps_refl w
                  · exact fun i s vs w _ h => h
                  · refine ⟨?_, ?_, ?_, ?_, ?_, ?_, ?_, ?_, ?_, ?_, ?_, ?_, ?_, ?_, ?_, ?_, ?_, ?_, ?_, ?_, ?_, ?_, ?_, ?_, ?_, ?_, ?_, ?_, ?_, ?_, ?_, ?_, ?_, ?_, ?_, ?_, ?_, ?_, ?_, ?_, ?_, ?_, ?_, ?_, ?_, ?_, ?_, ?_, ?_, trivial⟩
                    · exact fun g b h => by (cases h)
                    · exact fun g b h => by (cases h)
                    · exact fun g b h => by (cases h)
                    · exact fun g b h => by (cases h)
                    · exact fun g b h => by (cases h)
                    · exact fun g b h => by (cases h)
                    · exact fun g b h => by (cases h)
                    · exact fun g b h => by (cases h)
                    · exact fun g b h => by (cases h; exact ⟨by decide, fun v w h => h⟩)
                    · exact fun g b h => by (cases h; exact ⟨by decide, fun v w h => h⟩)
                    · exact fun g b h => by (cases h; exact ⟨by decide, fun v w h => h⟩)
                    · exact fun g b h => by (cases h; exact ⟨by decide, fun v w h => h⟩)
                    · exact fun g b h => by (cases h; exact ⟨by decide, fun v w h => h⟩)
                    · exact fun g b h => by (cases h; exact ⟨by decide, fun v w h => h⟩)
                    · exact fun g b h => by (cases h; exact ⟨by decide, fun v w h => h⟩)
                    · exact fun g b h => by (cases h; exact ⟨by decide, fun v w h => h⟩)
                    · exact fun g b h => by (cases h; exact ⟨by decide, fun v w h => h⟩)
                    · exact fun g b h => by (cases h; exact ⟨by decide, fun v w h => h⟩)
                    · exact fun g b h => by (cases h; exact ⟨by decide, fun v w h => h⟩)
                    · exact fun g b h => by (cases h; exact ⟨by decide, fun v w h => h⟩)
                    · exact fun g b h => by (cases h; exact ⟨by decide, fun v w h => h⟩)
                    · exact fun g b h => by (cases h; exact ⟨by decide, fun v w h => h⟩)
                    · exact fun g b h => by (cases h; exact ⟨by decide, fun v w h => h⟩)
                    · exact fun g b h => by (cases h; exact ⟨by decide, fun v w h => h⟩)
                    · exact fun g b h => by (cases h)
                    · exact fun g b h => by (cases h)
                    · exact fun g b h => by (cases h; exact ⟨by decide, fun v w h => h⟩)
                    · exact fun g b h => by (cases h; exact ⟨by decide, fun v w h => h⟩)
                    · exact fun g b h => by (cases h; exact ⟨by decide, fun v w h => h⟩)
                    · exact fun g b h => by (cases h; exact ⟨by decide, fun v w h => h⟩)
                    · exact fun g b h => by (cases h; exact ⟨by decide, fun v w h => h⟩)
                    · exact fun g b h => by (cases h; exact ⟨by decide, fun v w h => h⟩)
                    · exact fun g b h => by (cases h; exact ⟨by decide, fun v w h => h⟩)
                    · exact fun g b h => by (cases h)
                    · exact fun g b h => by (cases h)
                    · exact fun g b h => by (cases h; exact ⟨by decide, fun v w h => h⟩)
                    · exact fun g b h => by (cases h; exact ⟨by decide, fun v w h => h⟩)
                    · exact fun g b h => by (cases h; exact ⟨by decide, fun v w h => h⟩)
                    · exact fun g b h => by (cases h; exact ⟨by decide, fun v w h => h⟩)
                    · exact fun g b h => by (cases h; exact ⟨by decide, fun v w h => h⟩)
                    · exact fun g b h => by (cases h; exact ⟨by decide, fun v w h => h⟩)
                    · exact fun g b h => by (cases h; exact ⟨by decide, fun v w h => h⟩)
                    · exact fun g b h => by (cases h; exact ⟨by decide, fun v w h => h⟩)
                    · exact fun g b h => by (cases h; exact ⟨by decide, fun v w h => h⟩)
                    · exact fun g b h => by (cases h; exact ⟨by decide, fun v w h => h⟩)
                    · exact fun g b h => by (cases h; exact ⟨by decide, fun v w h => h⟩)
                    · exact fun g b h => by (cases h; exact ⟨by decide, fun v w h => h⟩)
                    · exact fun g b h => by (cases h; exact ⟨by decide, fun v w h => h⟩)
                    · exact fun g b h => by (cases h)
                  · exact fun _ _ => keeps_refl wr
                  · refine ⟨?_, ?_, ?_, ?_, ?_, ?_, ?_, ?_, ?_, ?_, ?_, ?_, ?_, ?_, ?_, ?_, ?_, ?_, ?_, ?_, ?_, ?_, ?_, ?_, ?_, ?_, ?_, ?_, ?_, ?_, ?_, ?_, ?_, ?_, ?_, ?_, ?_, ?_, ?_, ?_, ?_, ?_, ?_, ?_, ?_, ?_, ?_, ?_, ?_, trivial⟩
                    · intro _ a w1 vs hI ho hn hu K hK
                      have e0 : a.tmps[0]? = some (.slice (some ⟨b1, o1, none⟩) n q) := ho 0 rfl
                      clear hn ho hu
                      go_simp
                      exact hK _ _ (keeps_refl _) hI rfl
                    · intro _ a w1 vs hI ho hn hu K hK
                      have e3 : a.tmps[3]? = some (.int .i64 (k : Int)) := ho 3 rfl
                      clear hn ho hu
                      go_simp
                      exact hK _ _ (keeps_refl _) hI rfl
                    · intro _ a w1 vs hI ho hn hu K hK
                      obtain ⟨e15, g15⟩ : a.tmps[15]? = some (vs 0) ∧ vs 0 = .slice (some ⟨b1, o1, none⟩) n q := hn 0 (by decide)
                      rw [g15] at e15
                      clear g15
                      obtain ⟨e16, g16⟩ : a.tmps[16]? = some (vs 1) ∧ vs 1 = .int .i64 (k : Int) := hn 1 (by decide)
                      rw [g16] at e16
                      clear g16
                      clear hn ho hu
                      have i1 := HA.out.1
                      have i2 := HA.out.2
                      go_simp
                      exact hK _ _ (keeps_refl _) hI rfl
                    · intro _ a w1 vs hI ho hn hu K hK
                      obtain ⟨e17, g17⟩ : a.tmps[17]? = some (vs 2) ∧ vs 2 = .pointer (some ⟨b1, o1 + k * 3, none⟩) := hn 2 (by decide)
                      rw [g17] at e17
                      clear g17
                      clear hn ho hu
                      go_simp
                      exact hK _ _ (keeps_refl _) hI rfl
                    · intro _ a w1 vs hI ho hn hu K hK
                      obtain ⟨e18, g18⟩ : a.tmps[18]? = some (vs 3) ∧ vs 3 = .pointer (some ⟨b1, o1 + k * 3, none⟩) := hn 3 (by decide)
                      rw [g18] at e18
                      clear g18
                      clear hn ho hu
                      have c0 := keeps_cell hI P0.out
                      go_simp
                      exact hK _ _ (keeps_refl _) hI rfl
                    · intro _ a w1 vs hI ho hn hu K hK
                      obtain ⟨e19, g19⟩ : a.tmps[19]? = some (vs 4) ∧ vs 4 = .string P := hn 4 (by decide)
                      rw [g19] at e19
                      clear g19
                      clear hn ho hu
                      go_simp
                      refine Calls.mono (HMY.out _) ?_
                      rintro e w' ⟨rfl, hk2⟩
                      go_simp
                      exact hK _ _ hk2 (Keeps.trans hI hk2) rfl
                    · intro _ a w1 vs hI ho hn hu K hK
                      obtain ⟨e20, g20⟩ : a.tmps[20]? = some (vs 5) ∧ vs 5 = .bool true := hn 5 (by decide)
                      rw [g20] at e20
                      clear g20
                      clear hn ho hu
                      go_simp
                      exact hK _ _ (keeps_refl _) hI rfl
                    · intro _ a w1 vs hI ho hn hu K hK
                      obtain ⟨e21, g21⟩ : a.tmps[21]? = some (vs 6) ∧ vs 6 = .bool false := hn 6 (by decide)
                      rw [g21] at e21
                      clear g21
                      clear hn ho hu
                      go_simp
                      exact hK _ _ (keeps_refl _) hI rfl
                    · intro _ a w1 vs hI ho hn hu K hK
                      have e3 : a.tmps[3]? = some (.int .i64 (k : Int)) := ho 3 rfl
                      clear hn ho hu
                      go_simp
                      exact hK _ _ (keeps_refl _) hI rfl
                    · intro _ a w1 vs hI ho hn hu K hK
                      obtain ⟨e23, g23⟩ : a.tmps[23]? = some (vs 8) ∧ vs 8 = .int .i64 (k : Int) := hn 8 (by decide)
                      rw [g23] at e23
                      clear g23
                      clear hn ho hu
                      have q1 := HG.out.1
                      have q2 := HG.out.2
                      go_simp
                      exact hK _ _ (keeps_refl _) hI rfl
                    · intro _ a w1 vs hI ho hn hu K hK
                      obtain ⟨e24, g24⟩ : a.tmps[24]? = some (vs 9) ∧ vs 9 = .bool true := hn 9 (by decide)
                      rw [g24] at e24
                      clear g24
                      clear hn ho hu
                      go_simp
                      exact hK _ _ (keeps_refl _) hI rfl
                    · intro _ a w1 vs hI ho hn hu K hK
                      have e0 : a.tmps[0]? = some (.slice (some ⟨b1, o1, none⟩) n q) := ho 0 rfl
                      clear hn ho hu
                      go_simp
                      exact hK _ _ (keeps_refl _) hI rfl
                    · intro _ a w1 vs hI ho hn hu K hK
                      have e3 : a.tmps[3]? = some (.int .i64 (k : Int)) := ho 3 rfl
                      clear hn ho hu
                      go_simp
                      exact hK _ _ (keeps_refl _) hI rfl
                    · intro _ a w1 vs hI ho hn hu K hK
                      obtain ⟨e26, g26⟩ : a.tmps[26]? = some (vs 11) ∧ vs 11 = .slice (some ⟨b1, o1, none⟩) n q := hn 11 (by decide)
                      rw [g26] at e26
                      clear g26
                      obtain ⟨e27, g27⟩ : a.tmps[27]? = some (vs 12) ∧ vs 12 = .int .i64 (k : Int) := hn 12 (by decide)
                      rw [g27] at e27
                      clear g27
                      clear hn ho hu
                      have i1 := HA.out.1
                      have i2 := HA.out.2
                      go_simp
                      exact hK _ _ (keeps_refl _) hI rfl
                    · intro _ a w1 vs hI ho hn hu K hK
                      obtain ⟨e28, g28⟩ : a.tmps[28]? = some (vs 13) ∧ vs 13 = .pointer (some ⟨b1, o1 + k * 3, none⟩) := hn 13 (by decide)
                      rw [g28] at e28
                      clear g28
                      clear hn ho hu
                      go_simp
                      exact hK _ _ (keeps_refl _) hI rfl
                    · intro _ a w1 vs hI ho hn hu K hK
                      obtain ⟨e29, g29⟩ : a.tmps[29]? = some (vs 14) ∧ vs 14 = .pointer (some ⟨b1, o1 + k * 3, none⟩) := hn 14 (by decide)
                      rw [g29] at e29
                      clear g29
                      clear hn ho hu
                      have c0 := keeps_cell hI P0.out
                      go_simp
                      exact hK _ _ (keeps_refl _) hI rfl
                    · intro _ a w1 vs hI ho hn hu K hK
                      have e0 : a.tmps[0]? = some (.slice (some ⟨b1, o1, none⟩) n q) := ho 0 rfl
                      clear hn ho hu
                      go_simp
                      exact hK _ _ (keeps_refl _) hI rfl
                    · intro _ a w1 vs hI ho hn hu K hK
                      have e3 : a.tmps[3]? = some (.int .i64 (k : Int)) := ho 3 rfl
                      clear hn ho hu
                      go_simp
                      exact hK _ _ (keeps_refl _) hI rfl
                    · intro _ a w1 vs hI ho hn hu K hK
                      obtain ⟨e32, g32⟩ : a.tmps[32]? = some (vs 17) ∧ vs 17 = .int .i64 (k : Int) := hn 17 (by decide)
                      rw [g32] at e32
                      clear g32
                      clear hn ho hu
                      have q1 := HW.out.1.resolve_left HK0.out
                      go_simp
                      exact hK _ _ (keeps_refl _) hI rfl
                    · intro _ a w1 vs hI ho hn hu K hK
                      obtain ⟨e31, g31⟩ : a.tmps[31]? = some (vs 16) ∧ vs 16 = .slice (some ⟨b1, o1, none⟩) n q := hn 16 (by decide)
                      rw [g31] at e31
                      clear g31
                      obtain ⟨e33, g33⟩ : a.tmps[33]? = some (vs 18) ∧ vs 18 = .int .i64 (kp : Int) := hn 18 (by decide)
                      rw [g33] at e33
                      clear g33
                      clear hn ho hu
                      have i1 := HB.out.1
                      have i2 := HB.out.2
                      go_simp
                      exact hK _ _ (keeps_refl _) hI rfl
                    · intro _ a w1 vs hI ho hn hu K hK
                      obtain ⟨e34, g34⟩ : a.tmps[34]? = some (vs 19) ∧ vs 19 = .pointer (some ⟨b1, o1 + kp * 3, none⟩) := hn 19 (by decide)
                      rw [g34] at e34
                      clear g34
                      clear hn ho hu
                      go_simp
                      exact hK _ _ (keeps_refl _) hI rfl
                    · intro _ a w1 vs hI ho hn hu K hK
                      obtain ⟨e35, g35⟩ : a.tmps[35]? = some (vs 20) ∧ vs 20 = .pointer (some ⟨b1, o1 + kp * 3, none⟩) := hn 20 (by decide)
                      rw [g35] at e35
                      clear g35
                      clear hn ho hu
                      have c0 := keeps_cell hI Q0.out
                      go_simp
                      exact hK _ _ (keeps_refl _) hI rfl
                    · intro _ a w1 vs hI ho hn hu K hK
                      obtain ⟨e30, g30⟩ : a.tmps[30]? = some (vs 15) ∧ vs 15 = .string P := hn 15 (by decide)
                      rw [g30] at e30
                      clear g30
                      obtain ⟨e36, g36⟩ : a.tmps[36]? = some (vs 21) ∧ vs 21 = .string Pp := hn 21 (by decide)
                      rw [g36] at e36
                      clear g36
                      clear hn ho hu
                      have q1 := HLE.out
                      go_simp
                      exact hK _ _ (keeps_refl _) hI rfl
                    · intro _ a w1 vs hI ho hn hu K hK
                      obtain ⟨e25, g25⟩ : a.tmps[25]? = some (vs 10) ∧ vs 10 = .bool true := hn 10 (by decide)
                      rw [g25] at e25
                      clear g25
                      obtain ⟨e37, g37⟩ : a.tmps[37]? = some (vs 22) ∧ vs 22 = .bool false := hn 22 (by decide)
                      rw [g37] at e37
                      clear g37
                      clear hn ho hu
                      go_simp
                      exact hK _ _ (keeps_refl _) hI rfl
                    · intro _ a w1 vs hI ho hn hu K hK
                      obtain ⟨e22, g22⟩ : a.tmps[22]? = some (vs 7) ∧ vs 7 = .bool false := hn 7 (by decide)
                      rw [g22] at e22
                      clear g22
                      obtain ⟨e38, g38⟩ : a.tmps[38]? = some (vs 23) ∧ vs 23 = .bool false := hn 23 (by decide)
                      rw [g38] at e38
                      clear g38
                      clear hn ho hu
                      go_simp
                      exact hK _ _ (keeps_refl _) hI rfl
                    · intro _ a w1 vs hI ho hn hu K hK
                      obtain ⟨e39, g39⟩ : a.tmps[39]? = some (vs 24) ∧ vs 24 = .bool false := hn 24 (by decide)
                      rw [g39] at e39
                      clear g39
                      clear hn ho hu
                      go_simp
                      exact hK _ _ (keeps_refl _) hI rfl
                    · intro _ a w1 vs hI ho hn hu K hK
                      have e0 : a.tmps[0]? = some (.slice (some ⟨b1, o1, none⟩) n q) := ho 0 rfl
                      clear hn ho hu
                      go_simp
                      exact hK _ _ (keeps_refl _) hI rfl
                    · intro _ a w1 vs hI ho hn hu K hK
                      have e3 : a.tmps[3]? = some (.int .i64 (k : Int)) := ho 3 rfl
                      clear hn ho hu
                      go_simp
                      exact hK _ _ (keeps_refl _) hI rfl
                    · intro _ a w1 vs hI ho hn hu K hK
                      obtain ⟨e41, g41⟩ : a.tmps[41]? = some (vs 26) ∧ vs 26 = .slice (some ⟨b1, o1, none⟩) n q := hn 26 (by decide)
                      rw [g41] at e41
                      clear g41
                      obtain ⟨e42, g42⟩ : a.tmps[42]? = some (vs 27) ∧ vs 27 = .int .i64 (k : Int) := hn 27 (by decide)
                      rw [g42] at e42
                      clear g42
                      clear hn ho hu
                      have i1 := HA.out.1
                      have i2 := HA.out.2
                      go_simp
                      exact hK _ _ (keeps_refl _) hI rfl
                    · intro _ a w1 vs hI ho hn hu K hK
                      obtain ⟨e43, g43⟩ : a.tmps[43]? = some (vs 28) ∧ vs 28 = .pointer (some ⟨b1, o1 + k * 3, none⟩) := hn 28 (by decide)
                      rw [g43] at e43
                      clear g43
                      clear hn ho hu
                      go_simp
                      exact hK _ _ (keeps_refl _) hI rfl
                    · intro _ a w1 vs hI ho hn hu K hK
                      obtain ⟨e44, g44⟩ : a.tmps[44]? = some (vs 29) ∧ vs 29 = .pointer (some ⟨b1, o1 + k * 3 + 2, none⟩) := hn 29 (by decide)
                      rw [g44] at e44
                      clear g44
                      clear hn ho hu
                      have c0 := keeps_cell hI T2.out
                      go_simp
                      exact hK _ _ (keeps_refl _) hI rfl
                    · intro _ a w1 vs hI ho hn hu K hK
                      obtain ⟨e45, g45⟩ : a.tmps[45]? = some (vs 30) ∧ vs 30 = .string T := hn 30 (by decide)
                      rw [g45] at e45
                      clear g45
                      clear hn ho hu
                      go_simp
                      exact hK _ _ (keeps_refl _) hI rfl
                    · intro _ a w1 vs hI ho hn hu K hK
                      obtain ⟨e46, g46⟩ : a.tmps[46]? = some (vs 31) ∧ vs 31 = .int .i64 (T.size : Int) := hn 31 (by decide)
                      rw [g46] at e46
                      clear g46
                      clear hn ho hu
                      have q1 := HBG.out
                      go_simp
                      exact hK _ _ (keeps_refl _) hI rfl
                    · intro _ a w1 vs hI ho hn hu K hK
                      obtain ⟨e40, g40⟩ : a.tmps[40]? = some (vs 25) ∧ vs 25 = .bool false := hn 25 (by decide)
                      rw [g40] at e40
                      clear g40
                      obtain ⟨e47, g47⟩ : a.tmps[47]? = some (vs 32) ∧ vs 32 = .bool false := hn 32 (by decide)
                      rw [g47] at e47
                      clear g47
                      clear hn ho hu
                      go_simp
                      exact hK _ _ (keeps_refl _) hI rfl
                    · intro _ a w1 vs hI ho hn hu K hK
                      obtain ⟨e48, g48⟩ : a.tmps[48]? = some (vs 33) ∧ vs 33 = .bool false := hn 33 (by decide)
                      rw [g48] at e48
                      clear g48
                      clear hn ho hu
                      go_simp
                      exact hK _ _ (keeps_refl _) hI rfl
                    · intro _ a w1 vs hI ho hn hu K hK
                      have e0 : a.tmps[0]? = some (.slice (some ⟨b1, o1, none⟩) n q) := ho 0 rfl
                      clear hn ho hu
                      go_simp
                      exact hK _ _ (keeps_refl _) hI rfl
                    · intro _ a w1 vs hI ho hn hu K hK
                      have e3 : a.tmps[3]? = some (.int .i64 (k : Int)) := ho 3 rfl
                      clear hn ho hu
                      go_simp
                      exact hK _ _ (keeps_refl _) hI rfl
                    · intro _ a w1 vs hI ho hn hu K hK
                      obtain ⟨e50, g50⟩ : a.tmps[50]? = some (vs 35) ∧ vs 35 = .slice (some ⟨b1, o1, none⟩) n q := hn 35 (by decide)
                      rw [g50] at e50
                      clear g50
                      obtain ⟨e51, g51⟩ : a.tmps[51]? = some (vs 36) ∧ vs 36 = .int .i64 (k : Int) := hn 36 (by decide)
                      rw [g51] at e51
                      clear g51
                      clear hn ho hu
                      have i1 := HA.out.1
                      have i2 := HA.out.2
                      go_simp
                      exact hK _ _ (keeps_refl _) hI rfl
                    · intro _ a w1 vs hI ho hn hu K hK
                      obtain ⟨e52, g52⟩ : a.tmps[52]? = some (vs 37) ∧ vs 37 = .pointer (some ⟨b1, o1 + k * 3, none⟩) := hn 37 (by decide)
                      rw [g52] at e52
                      clear g52
                      clear hn ho hu
                      go_simp
                      exact hK _ _ (keeps_refl _) hI rfl
                    · intro _ a w1 vs hI ho hn hu K hK
                      obtain ⟨e53, g53⟩ : a.tmps[53]? = some (vs 38) ∧ vs 38 = .pointer (some ⟨b1, o1 + k * 3 + 1, none⟩) := hn 38 (by decide)
                      rw [g53] at e53
                      clear g53
                      clear hn ho hu
                      have c0 := keeps_cell hI D1.out
                      go_simp
                      exact hK _ _ (keeps_refl _) hI rfl
                    · intro _ a w1 vs hI ho hn hu K hK
                      obtain ⟨e54, g54⟩ : a.tmps[54]? = some (vs 39) ∧ vs 39 = .bool true := hn 39 (by decide)
                      rw [g54] at e54
                      clear g54
                      clear hn ho hu
                      go_simp
                      exact hK _ _ (keeps_refl _) hI rfl
                    · intro _ a w1 vs hI ho hn hu K hK
                      have e0 : a.tmps[0]? = some (.slice (some ⟨b1, o1, none⟩) n q) := ho 0 rfl
                      clear hn ho hu
                      go_simp
                      exact hK _ _ (keeps_refl _) hI rfl
                    · intro _ a w1 vs hI ho hn hu K hK
                      have e3 : a.tmps[3]? = some (.int .i64 (k : Int)) := ho 3 rfl
                      clear hn ho hu
                      go_simp
                      exact hK _ _ (keeps_refl _) hI rfl
                    · intro _ a w1 vs hI ho hn hu K hK
                      obtain ⟨e56, g56⟩ : a.tmps[56]? = some (vs 41) ∧ vs 41 = .slice (some ⟨b1, o1, none⟩) n q := hn 41 (by decide)
                      rw [g56] at e56
                      clear g56
                      obtain ⟨e57, g57⟩ : a.tmps[57]? = some (vs 42) ∧ vs 42 = .int .i64 (k : Int) := hn 42 (by decide)
                      rw [g57] at e57
                      clear g57
                      clear hn ho hu
                      have i1 := HA.out.1
                      have i2 := HA.out.2
                      go_simp
                      exact hK _ _ (keeps_refl _) hI rfl
                    · intro _ a w1 vs hI ho hn hu K hK
                      obtain ⟨e58, g58⟩ : a.tmps[58]? = some (vs 43) ∧ vs 43 = .pointer (some ⟨b1, o1 + k * 3, none⟩) := hn 43 (by decide)
                      rw [g58] at e58
                      clear g58
                      clear hn ho hu
                      go_simp
                      exact hK _ _ (keeps_refl _) hI rfl
                    · intro _ a w1 vs hI ho hn hu K hK
                      obtain ⟨e59, g59⟩ : a.tmps[59]? = some (vs 44) ∧ vs 44 = .pointer (some ⟨b1, o1 + k * 3 + 2, none⟩) := hn 44 (by decide)
                      rw [g59] at e59
                      clear g59
                      clear hn ho hu
                      have c0 := keeps_cell hI T2.out
                      go_simp
                      exact hK _ _ (keeps_refl _) hI rfl
                    · intro _ a w1 vs hI ho hn hu K hK
                      obtain ⟨e60, g60⟩ : a.tmps[60]? = some (vs 45) ∧ vs 45 = .string T := hn 45 (by decide)
                      rw [g60] at e60
                      clear g60
                      clear hn ho hu
                      have q1 := HTE.out.1
                      have q2 := HTE.out.2
                      go_simp
                      exact hK _ _ (keeps_refl _) hI rfl
                    · intro _ a w1 vs hI ho hn hu K hK
                      obtain ⟨e55, g55⟩ : a.tmps[55]? = some (vs 40) ∧ vs 40 = .bool true := hn 40 (by decide)
                      rw [g55] at e55
                      clear g55
                      obtain ⟨e61, g61⟩ : a.tmps[61]? = some (vs 46) ∧ vs 46 = .bool true := hn 46 (by decide)
                      rw [g61] at e61
                      clear g61
                      clear hn ho hu
                      go_simp
                      exact hK _ _ (keeps_refl _) hI rfl
                    · intro _ a w1 vs hI ho hn hu K hK
                      obtain ⟨e49, g49⟩ : a.tmps[49]? = some (vs 34) ∧ vs 34 = .bool false := hn 34 (by decide)
                      rw [g49] at e49
                      clear g49
                      obtain ⟨e62, g62⟩ : a.tmps[62]? = some (vs 47) ∧ vs 47 = .bool true := hn 47 (by decide)
                      rw [g62] at e62
                      clear g62
                      clear hn ho hu
                      go_simp
                      exact hK _ _ (keeps_refl _) hI rfl
                  · intro vs wE hI hG
                    have eL48 : vs 48 = .bool true := hG 48 (by decide)
                    have HKE := Lib.hid hI
                    clear hG hI
                    simp only [setAll, Nat.zero_add, Nat.reduceAdd, List.setIfInBounds_toArray, List.set_cons_zero, List.set_cons_succ, eL48]
                    clear eL48
                    generalize vs 0 = y0 at *
                    generalize vs 1 = y1 at *
                    generalize vs 2 = y2 at *
                    generalize vs 3 = y3 at *
                    generalize vs 4 = y4 at *
                    generalize vs 5 = y5 at *
                    generalize vs 6 = y6 at *
                    generalize vs 7 = y7 at *
                    generalize vs 8 = y8 at *
                    generalize vs 9 = y9 at *
                    generalize vs 10 = y10 at *
                    generalize vs 11 = y11 at *
                    generalize vs 12 = y12 at *
                    generalize vs 13 = y13 at *
                    generalize vs 14 = y14 at *
                    generalize vs 15 = y15 at *
                    generalize vs 16 = y16 at *
                    generalize vs 17 = y17 at *
                    generalize vs 18 = y18 at *
                    generalize vs 19 = y19 at *
                    generalize vs 20 = y20 at *
                    generalize vs 21 = y21 at *
                    generalize vs 22 = y22 at *
                    generalize vs 23 = y23 at *
                    generalize vs 24 = y24 at *
                    generalize vs 25 = y25 at *
                    generalize vs 26 = y26 at *
                    generalize vs 27 = y27 at *
                    generalize vs 28 = y28 at *
                    generalize vs 29 = y29 at *
                    generalize vs 30 = y30 at *
                    generalize vs 31 = y31 at *
                    generalize vs 32 = y32 at *
                    generalize vs 33 = y33 at *
                    generalize vs 34 = y34 at *
                    generalize vs 35 = y35 at *
                    generalize vs 36 = y36 at *
                    generalize vs 37 = y37 at *
                    generalize vs 38 = y38 at *
                    generalize vs 39 = y39 at *
                    generalize vs 40 = y40 at *
                    generalize vs 41 = y41 at *
                    generalize vs 42 = y42 at *
                    generalize vs 43 = y43 at *
                    generalize vs 44 = y44 at *
                    generalize vs 45 = y45 at *
                    generalize vs 46 = y46 at *
                    generalize vs 47 = y47 at *
                    have HKW := Lib.hid (hK.out.trans HKE.out)
                    clear HKE
                    go_wp2_with fail
                    go_ret
                    exact ⟨by rw [HT2.out]; rfl, HKW.out⟩
    · obtain rfl : k = l.length := by omega
      have HT : Hid (treeR l = true) := by
        show _ = _
        unfold treeR
        rw [decide_eq_true (by omega), Bool.true_and, List.all_eq_true]
        intro i hi
        exact hN.out i (List.mem_range.1 hi)
      go_wp2_with fail
      go_ret
      exact ⟨by rw [HT.out]; rfl, hK.out⟩
end Go.Proofs.YtdpfanifagfciaaDoor
