/- The walk of the reference's Same of entries. Printed by gensame19.py. -/
import Derived.Test.YtdpfanifagfciaaDoorNodeB
import Derived.Test.YtdpfanifagfciaaDoorLawPUp
namespace Go.Proofs.YtdpfanifagfciaaDoor
open Go.RowKit
attribute [local go_sem ↓] Go.wp_at_zero Go.wp_at_succ
deriving instance DecidableEq for EntR
/-- Are two lists of entries the same? -/
def sameE (l m : List EntR) : Bool := decide (l = m)
theorem ents_ext {l m : List EntR} (h : l.length = m.length) (e : ∀ j, j < l.length → eAt l j = eAt m j) : l = m :=
  List.ext_getElem h fun i h1 h2 => by rw [← eAt_eq h1, ← eAt_eq h2]; exact e i h1
theorem texts_ext {l m : List ByteArray} (h : l.length = m.length) (e : ∀ j, j < l.length → tAt l j = tAt m j) : l = m :=
  List.ext_getElem h fun i h1 h2 => by rw [← tAt_eq h1, ← tAt_eq h2]; exact e i h1
theorem bool_ne {a b : Bool} (h : a ≠ b) : (a == b) = false ∧ (!(a == b)) = true ∧ (a != b) = true ∧ (a ^^ b) = true := by revert h; revert a b; decide
def nsm0 (b1 o1 n q b2 o2 m q2 k : Nat) (xn yn : ByteArray) (xd yd : Bool) (xz yz : Int) (pc pe : Option Addr) (xm ym qc qe : Nat) : Nat → Value → Prop
  | i, v => v = ([.slice (some ⟨b1, o1, none⟩) n q, .int .i64 (k : Int), .pointer (some ⟨b1, o1 + k * 4, none⟩), .pointer (some ⟨b1, o1 + k * 4, none⟩), .string xn, .slice (some ⟨b2, o2, none⟩) m q2, .int .i64 (k : Int), .pointer (some ⟨b2, o2 + k * 4, none⟩), .pointer (some ⟨b2, o2 + k * 4, none⟩), .string yn, .bool true, .bool true, undef, undef, undef, undef, undef, undef, undef, undef, undef, undef, undef, .bool true, .bool true, undef, undef, undef, undef, undef, undef, undef, undef, undef, undef, undef, .bool true, .bool true, undef, undef, undef, undef, undef, undef, undef, undef, undef, undef, undef, undef, undef, .bool true] : List Value).getD i undef
def nsm1 (b1 o1 n q b2 o2 m q2 k : Nat) (xn yn : ByteArray) (xd yd : Bool) (xz yz : Int) (pc pe : Option Addr) (xm ym qc qe : Nat) : Nat → Value → Prop
  | i, v => v = ([.slice (some ⟨b1, o1, none⟩) n q, .int .i64 (k : Int), .pointer (some ⟨b1, o1 + k * 4, none⟩), .pointer (some ⟨b1, o1 + k * 4, none⟩), .string xn, .slice (some ⟨b2, o2, none⟩) m q2, .int .i64 (k : Int), .pointer (some ⟨b2, o2 + k * 4, none⟩), .pointer (some ⟨b2, o2 + k * 4, none⟩), .string yn, .bool false, .bool false, .slice (some ⟨b1, o1, none⟩) n q, .int .i64 (k : Int), .pointer (some ⟨b1, o1 + k * 4, none⟩), .pointer (some ⟨b1, o1 + k * 4 + 1, none⟩), .bool xd, .slice (some ⟨b2, o2, none⟩) m q2, .int .i64 (k : Int), .pointer (some ⟨b2, o2 + k * 4, none⟩), .pointer (some ⟨b2, o2 + k * 4 + 1, none⟩), .bool yd, .bool true, .bool true, .bool true, undef, undef, undef, undef, undef, undef, undef, undef, undef, undef, undef, .bool true, .bool true, undef, undef, undef, undef, undef, undef, undef, undef, undef, undef, undef, undef, undef, .bool true] : List Value).getD i undef
def nsm2 (b1 o1 n q b2 o2 m q2 k : Nat) (xn yn : ByteArray) (xd yd : Bool) (xz yz : Int) (pc pe : Option Addr) (xm ym qc qe : Nat) : Nat → Value → Prop
  | i, v => v = ([.slice (some ⟨b1, o1, none⟩) n q, .int .i64 (k : Int), .pointer (some ⟨b1, o1 + k * 4, none⟩), .pointer (some ⟨b1, o1 + k * 4, none⟩), .string xn, .slice (some ⟨b2, o2, none⟩) m q2, .int .i64 (k : Int), .pointer (some ⟨b2, o2 + k * 4, none⟩), .pointer (some ⟨b2, o2 + k * 4, none⟩), .string yn, .bool false, .bool false, .slice (some ⟨b1, o1, none⟩) n q, .int .i64 (k : Int), .pointer (some ⟨b1, o1 + k * 4, none⟩), .pointer (some ⟨b1, o1 + k * 4 + 1, none⟩), .bool xd, .slice (some ⟨b2, o2, none⟩) m q2, .int .i64 (k : Int), .pointer (some ⟨b2, o2 + k * 4, none⟩), .pointer (some ⟨b2, o2 + k * 4 + 1, none⟩), .bool yd, .bool false, .bool false, .bool false, .slice (some ⟨b1, o1, none⟩) n q, .int .i64 (k : Int), .pointer (some ⟨b1, o1 + k * 4, none⟩), .pointer (some ⟨b1, o1 + k * 4 + 2, none⟩), .int .i64 xz, .slice (some ⟨b2, o2, none⟩) m q2, .int .i64 (k : Int), .pointer (some ⟨b2, o2 + k * 4, none⟩), .pointer (some ⟨b2, o2 + k * 4 + 2, none⟩), .int .i64 yz, .bool true, .bool true, .bool true, undef, undef, undef, undef, undef, undef, undef, undef, undef, undef, undef, undef, undef, .bool true] : List Value).getD i undef
def nsm3 (b1 o1 n q b2 o2 m q2 k : Nat) (xn yn : ByteArray) (xd yd : Bool) (xz yz : Int) (pc pe : Option Addr) (xm ym qc qe : Nat) : Nat → Value → Prop
  | i, v => v = ([.slice (some ⟨b1, o1, none⟩) n q, .int .i64 (k : Int), .pointer (some ⟨b1, o1 + k * 4, none⟩), .pointer (some ⟨b1, o1 + k * 4, none⟩), .string xn, .slice (some ⟨b2, o2, none⟩) m q2, .int .i64 (k : Int), .pointer (some ⟨b2, o2 + k * 4, none⟩), .pointer (some ⟨b2, o2 + k * 4, none⟩), .string yn, .bool false, .bool false, .slice (some ⟨b1, o1, none⟩) n q, .int .i64 (k : Int), .pointer (some ⟨b1, o1 + k * 4, none⟩), .pointer (some ⟨b1, o1 + k * 4 + 1, none⟩), .bool xd, .slice (some ⟨b2, o2, none⟩) m q2, .int .i64 (k : Int), .pointer (some ⟨b2, o2 + k * 4, none⟩), .pointer (some ⟨b2, o2 + k * 4 + 1, none⟩), .bool yd, .bool false, .bool false, .bool false, .slice (some ⟨b1, o1, none⟩) n q, .int .i64 (k : Int), .pointer (some ⟨b1, o1 + k * 4, none⟩), .pointer (some ⟨b1, o1 + k * 4 + 2, none⟩), .int .i64 xz, .slice (some ⟨b2, o2, none⟩) m q2, .int .i64 (k : Int), .pointer (some ⟨b2, o2 + k * 4, none⟩), .pointer (some ⟨b2, o2 + k * 4 + 2, none⟩), .int .i64 yz, .bool false, .bool false, .bool false, .slice (some ⟨b1, o1, none⟩) n q, .int .i64 (k : Int), .pointer (some ⟨b1, o1 + k * 4, none⟩), .pointer (some ⟨b1, o1 + k * 4 + 3, none⟩), .slice pc xm qc, .int .i64 (xm : Int), .slice (some ⟨b2, o2, none⟩) m q2, .int .i64 (k : Int), .pointer (some ⟨b2, o2 + k * 4, none⟩), .pointer (some ⟨b2, o2 + k * 4 + 3, none⟩), .slice pe ym qe, .int .i64 (ym : Int), .bool true, .bool true] : List Value).getD i undef
def nsm4 (b1 o1 n q b2 o2 m q2 k : Nat) (xn yn : ByteArray) (xd yd : Bool) (xz yz : Int) (pc pe : Option Addr) (xm ym qc qe : Nat) : Nat → Value → Prop
  | i, v => v = ([.slice (some ⟨b1, o1, none⟩) n q, .int .i64 (k : Int), .pointer (some ⟨b1, o1 + k * 4, none⟩), .pointer (some ⟨b1, o1 + k * 4, none⟩), .string xn, .slice (some ⟨b2, o2, none⟩) m q2, .int .i64 (k : Int), .pointer (some ⟨b2, o2 + k * 4, none⟩), .pointer (some ⟨b2, o2 + k * 4, none⟩), .string yn, .bool false, .bool false, .slice (some ⟨b1, o1, none⟩) n q, .int .i64 (k : Int), .pointer (some ⟨b1, o1 + k * 4, none⟩), .pointer (some ⟨b1, o1 + k * 4 + 1, none⟩), .bool xd, .slice (some ⟨b2, o2, none⟩) m q2, .int .i64 (k : Int), .pointer (some ⟨b2, o2 + k * 4, none⟩), .pointer (some ⟨b2, o2 + k * 4 + 1, none⟩), .bool yd, .bool false, .bool false, .bool false, .slice (some ⟨b1, o1, none⟩) n q, .int .i64 (k : Int), .pointer (some ⟨b1, o1 + k * 4, none⟩), .pointer (some ⟨b1, o1 + k * 4 + 2, none⟩), .int .i64 xz, .slice (some ⟨b2, o2, none⟩) m q2, .int .i64 (k : Int), .pointer (some ⟨b2, o2 + k * 4, none⟩), .pointer (some ⟨b2, o2 + k * 4 + 2, none⟩), .int .i64 yz, .bool false, .bool false, .bool false, .slice (some ⟨b1, o1, none⟩) n q, .int .i64 (k : Int), .pointer (some ⟨b1, o1 + k * 4, none⟩), .pointer (some ⟨b1, o1 + k * 4 + 3, none⟩), .slice pc xm qc, .int .i64 (xm : Int), .slice (some ⟨b2, o2, none⟩) m q2, .int .i64 (k : Int), .pointer (some ⟨b2, o2 + k * 4, none⟩), .pointer (some ⟨b2, o2 + k * 4 + 3, none⟩), .slice pe ym qe, .int .i64 (ym : Int), .bool false, .bool false] : List Value).getD i undef
set_option maxRecDepth 100000 in
set_option maxHeartbeats 8000000 in
theorem rsame19_any (v u : Value) (l m : List EntR) (w : World) (h : EntsAt w.heap v l) (hm : EntsAt w.heap u m) : Calls Tryd.prog 16 #[v, u] w fun e w' => e = .returned (.bool (sameE l m)) ∧ Keeps w w' := by
  obtain ⟨p, q, rfl⟩ := rec_shape h
  obtain ⟨p2, q2, rfl⟩ := rec_shape hm
  have hl63 : l.length ≤ 9223372036854775807 := let ⟨_, _, _, x, _⟩ := h; x
  have hm63 : m.length ≤ 9223372036854775807 := let ⟨_, _, _, x, _⟩ := hm; x
  have H := Lib.hid h
  have HM := Lib.hid hm
  clear h hm
  by_cases he : l.length = m.length
  · have g1 : ((l.length : Int) == (m.length : Int)) = true := by rw [beq_iff_eq]; omega
    have g2 : decide ((l.length : Int) = (m.length : Int)) = true := decide_eq_true (by omega)
    have g3 : (l.length == m.length) = true := by rw [beq_iff_eq]; exact he
    have HE := Lib.hid he
    clear he
    go_enter Tryd.func16, Tryd.ntmps16
    go_wp2_with fail
    clear g1 g2 g3
    generalize ((l.length : Int) != (m.length : Int)) = bb
    go_loopw [5] (fun i wr => ∃ k : Nat, k ≤ l.length ∧ i = .int .i64 k ∧ Hid (∀ j, j < k → eAt l j = eAt m j) ∧ Hid (Keeps w wr)) (fun i _ => l.length - (intOf i).toNat)
    case atStart => exact ⟨0, by omega, rfl, fun j h => absurd h (by omega), keeps_refl _⟩
    case round =>
      obtain ⟨k, hk, rfl, hN, hK⟩ := hrel
      by_cases hlt : k < l.length
      · have hlt64 : (k : Int) < (l.length : Int) := by omega
        have HA : Hid ((0 : Int) ≤ (k : Int) ∧ (k : Int) < (l.length : Int) ∧ (k : Int) < (m.length : Int)) := by have := HE.out; exact ⟨by omega, by omega, by omega⟩
        obtain ⟨b1, o1, pc, qc, rfl, _, a0, a1, a2, a3, ht, _⟩ := ent_cell H.out hlt
        obtain ⟨b2, o2, pe, qe, rfl, _, c0, c1, c2, c3, ht2, _⟩ := ent_cell HM.out (i := k) (by have := HE.out; omega)
        have HN2 : Hid (eAt l k = eAt m k → ∀ j, j < k + 1 → eAt l j = eAt m j) := fun e j hj => by
          by_cases e2 : j = k
          · subst e2; exact e
          · exact hN.out j (by omega)
        have HF : Hid (eAt l k ≠ eAt m k → sameE l m = false) := fun e => decide_eq_false fun e2 => e (by rw [e2])
        generalize eAt l k = X at *
        generalize eAt m k = Y at *
        obtain ⟨xn, xd, xz, xc⟩ := X
        obtain ⟨yn, yd, yz, yc⟩ := Y
        dsimp only at a0 a1 a2 a3 c0 c1 c2 c3 ht ht2
        have hx63 : xc.length ≤ 9223372036854775807 := let ⟨_, _, _, x, _⟩ := ht; x
        have HTX := Lib.hid ht
        have HTY := Lib.hid ht2
        have W3 := Lib.hid a3
        have V3 := Lib.hid c3
        have A0 := Lib.hid (keeps_cell hK.out a0)
        have C0 := Lib.hid (keeps_cell hK.out c0)
        have A1 := Lib.hid (keeps_cell hK.out a1)
        have C1 := Lib.hid (keeps_cell hK.out c1)
        have A2 := Lib.hid (keeps_cell hK.out a2)
        have C2 := Lib.hid (keeps_cell hK.out c2)
        have A3 := Lib.hid (keeps_cell hK.out a3)
        have C3 := Lib.hid (keeps_cell hK.out c3)
        clear a0 a1 a2 a3 c0 c1 c2 c3 ht ht2
        by_cases h0 : xn ≠ yn
        · have D0 : Hid ((xn.toList == yn.toList) = false ∧ (!(xn.toList == yn.toList)) = true ∧ (xn.toList != yn.toList) = true ∧ True) := ⟨by rw [txt_eq]; exact decide_eq_false h0, by rw [txt_eq, decide_eq_false h0]; rfl, by unfold bne; rw [txt_eq, decide_eq_false h0]; rfl, trivial⟩
          have HF2 := Lib.hid (HF.out fun e => h0 (congrArg (EntR.n) e))
          clear h0
          go_wp2_with fail
          refine wp_region_stage [18, 19, 20, 21, 22, 23, 24, 25, 26, 27, 28, 29, 30, 31, 32, 33, 34, 35, 36, 37, 38, 39, 40, 41, 42, 43, 44, 45, 46, 47, 48, 49, 50, 51, 52, 53, 54, 55, 56, 57, 58, 59, 60, 61, 62, 63, 64, 65, 66, 67, 68, 69] [[], [], [0, 1], [2], [3], [], [], [5, 6], [7], [8], [4, 9], [10], [11], [11], [11], [11], [11], [11], [11], [11], [11], [11], [11], [11, 22], [23], [24], [24], [24], [24], [24], [24], [24], [24], [24], [24], [24], [24, 35], [36], [37], [37], [37], [37], [37], [37], [37], [37], [37], [37], [37], [37], [37], [37, 50]] [] [0, 0, 0, 0, 0, 0, 0, 0, 0, 0, 0, 0, 0, 0, 0, 0, 0, 0, 0, 0, 0, 0, 0, 0, 0, 0, 0, 0, 0, 0, 0, 0, 0, 0, 0, 0, 0, 0, 0, 0, 0, 0, 0, 0, 0, 0, 0, 0, 0, 0, 0, 0] [12, 13, 14, 15, 16, 17, 18, 19, 20, 21, 22, 25, 26, 27, 28, 29, 30, 31, 32, 33, 34, 35, 38, 39, 40, 41, 42, 43, 44, 45, 46, 47, 48, 49, 50] (fun i v _ => nsm0 b1 o1 l.length q b2 o2 m.length q2 k xn yn xd yd xz yz pc pe xc.length yc.length qc qe i v) (fun w w' => Keeps w w') (fun _ _ w' => Keeps wr w') (by kernel_rfl) (by kernel_rfl) (by kernel_rfl) (by kernel_rfl) (by kernel_rfl) (by kernel_rfl) (by kernel_rfl) ?_ ?_ ?_ ?_ ?_ ?_ ?_
          · exact fun i v w w' c h => h
          · exact fun w => keeps_refl w
          · exact fun i s vs w _ h => h
          · refine ⟨?_, ?_, ?_, ?_, ?_, ?_, ?_, ?_, ?_, ?_, ?_, ?_, ?_, ?_, ?_, ?_, ?_, ?_, ?_, ?_, ?_, ?_, ?_, ?_, ?_, ?_, ?_, ?_, ?_, ?_, ?_, ?_, ?_, ?_, ?_, ?_, ?_, ?_, ?_, ?_, ?_, ?_, ?_, ?_, ?_, ?_, ?_, ?_, ?_, ?_, ?_, ?_, trivial⟩
            · exact fun g b h => by (cases h)
            · exact fun g b h => by (cases h)
            · exact fun g b h => by (cases h)
            · exact fun g b h => by (cases h)
            · exact fun g b h => by (cases h)
            · exact fun g b h => by (cases h)
            · exact fun g b h => by (cases h)
            · exact fun g b h => by (cases h)
            · exact fun g b h => by (cases h)
            · exact fun g b h => by (cases h)
            · exact fun g b h => by (cases h)
            · exact fun g b h => by (cases h)
            · exact ⟨⟨_, _, rfl, by decide, fun v w h => by (first | (change v = _ at h; subst h; intro x; cases x) | skip)⟩, fun w => rfl⟩
            · exact ⟨⟨_, _, rfl, by decide, fun v w h => by (first | (change v = _ at h; subst h; intro x; cases x) | skip)⟩, fun w => rfl⟩
            · exact ⟨⟨_, _, rfl, by decide, fun v w h => by (first | (change v = _ at h; subst h; intro x; cases x) | skip)⟩, fun w => rfl⟩
            · exact ⟨⟨_, _, rfl, by decide, fun v w h => by (first | (change v = _ at h; subst h; intro x; cases x) | skip)⟩, fun w => rfl⟩
            · exact ⟨⟨_, _, rfl, by decide, fun v w h => by (first | (change v = _ at h; subst h; intro x; cases x) | skip)⟩, fun w => rfl⟩
            · exact ⟨⟨_, _, rfl, by decide, fun v w h => by (first | (change v = _ at h; subst h; intro x; cases x) | skip)⟩, fun w => rfl⟩
            · exact ⟨⟨_, _, rfl, by decide, fun v w h => by (first | (change v = _ at h; subst h; intro x; cases x) | skip)⟩, fun w => rfl⟩
            · exact ⟨⟨_, _, rfl, by decide, fun v w h => by (first | (change v = _ at h; subst h; intro x; cases x) | skip)⟩, fun w => rfl⟩
            · exact ⟨⟨_, _, rfl, by decide, fun v w h => by (first | (change v = _ at h; subst h; intro x; cases x) | skip)⟩, fun w => rfl⟩
            · exact ⟨⟨_, _, rfl, by decide, fun v w h => by (first | (change v = _ at h; subst h; intro x; cases x) | skip)⟩, fun w => rfl⟩
            · exact ⟨⟨_, _, rfl, by decide, fun v w h => by (first | (change v = _ at h; subst h; intro x; cases x) | skip)⟩, fun w => rfl⟩
            · exact fun g b h => by (cases h)
            · exact fun g b h => by (cases h)
            · exact ⟨⟨_, _, rfl, by decide, fun v w h => by (first | (change v = _ at h; subst h; intro x; cases x) | skip)⟩, fun w => rfl⟩
            · exact ⟨⟨_, _, rfl, by decide, fun v w h => by (first | (change v = _ at h; subst h; intro x; cases x) | skip)⟩, fun w => rfl⟩
            · exact ⟨⟨_, _, rfl, by decide, fun v w h => by (first | (change v = _ at h; subst h; intro x; cases x) | skip)⟩, fun w => rfl⟩
            · exact ⟨⟨_, _, rfl, by decide, fun v w h => by (first | (change v = _ at h; subst h; intro x; cases x) | skip)⟩, fun w => rfl⟩
            · exact ⟨⟨_, _, rfl, by decide, fun v w h => by (first | (change v = _ at h; subst h; intro x; cases x) | skip)⟩, fun w => rfl⟩
            · exact ⟨⟨_, _, rfl, by decide, fun v w h => by (first | (change v = _ at h; subst h; intro x; cases x) | skip)⟩, fun w => rfl⟩
            · exact ⟨⟨_, _, rfl, by decide, fun v w h => by (first | (change v = _ at h; subst h; intro x; cases x) | skip)⟩, fun w => rfl⟩
            · exact ⟨⟨_, _, rfl, by decide, fun v w h => by (first | (change v = _ at h; subst h; intro x; cases x) | skip)⟩, fun w => rfl⟩
            · exact ⟨⟨_, _, rfl, by decide, fun v w h => by (first | (change v = _ at h; subst h; intro x; cases x) | skip)⟩, fun w => rfl⟩
            · exact ⟨⟨_, _, rfl, by decide, fun v w h => by (first | (change v = _ at h; subst h; intro x; cases x) | skip)⟩, fun w => rfl⟩
            · exact ⟨⟨_, _, rfl, by decide, fun v w h => by (first | (change v = _ at h; subst h; intro x; cases x) | skip)⟩, fun w => rfl⟩
            · exact fun g b h => by (cases h)
            · exact fun g b h => by (cases h)
            · exact ⟨⟨_, _, rfl, by decide, fun v w h => by (first | (change v = _ at h; subst h; intro x; cases x) | skip)⟩, fun w => rfl⟩
            · exact ⟨⟨_, _, rfl, by decide, fun v w h => by (first | (change v = _ at h; subst h; intro x; cases x) | skip)⟩, fun w => rfl⟩
            · exact ⟨⟨_, _, rfl, by decide, fun v w h => by (first | (change v = _ at h; subst h; intro x; cases x) | skip)⟩, fun w => rfl⟩
            · exact ⟨⟨_, _, rfl, by decide, fun v w h => by (first | (change v = _ at h; subst h; intro x; cases x) | skip)⟩, fun w => rfl⟩
            · exact ⟨⟨_, _, rfl, by decide, fun v w h => by (first | (change v = _ at h; subst h; intro x; cases x) | skip)⟩, fun w => rfl⟩
            · exact ⟨⟨_, _, rfl, by decide, fun v w h => by (first | (change v = _ at h; subst h; intro x; cases x) | skip)⟩, fun w => rfl⟩
            · exact ⟨⟨_, _, rfl, by decide, fun v w h => by (first | (change v = _ at h; subst h; intro x; cases x) | skip)⟩, fun w => rfl⟩
            · exact ⟨⟨_, _, rfl, by decide, fun v w h => by (first | (change v = _ at h; subst h; intro x; cases x) | skip)⟩, fun w => rfl⟩
            · exact ⟨⟨_, _, rfl, by decide, fun v w h => by (first | (change v = _ at h; subst h; intro x; cases x) | skip)⟩, fun w => rfl⟩
            · exact ⟨⟨_, _, rfl, by decide, fun v w h => by (first | (change v = _ at h; subst h; intro x; cases x) | skip)⟩, fun w => rfl⟩
            · exact ⟨⟨_, _, rfl, by decide, fun v w h => by (first | (change v = _ at h; subst h; intro x; cases x) | skip)⟩, fun w => rfl⟩
            · exact ⟨⟨_, _, rfl, by decide, fun v w h => by (first | (change v = _ at h; subst h; intro x; cases x) | skip)⟩, fun w => rfl⟩
            · exact ⟨⟨_, _, rfl, by decide, fun v w h => by (first | (change v = _ at h; subst h; intro x; cases x) | skip)⟩, fun w => rfl⟩
            · exact fun g b h => by (cases h)
          · exact fun _ _ => keeps_refl wr
          · refine ⟨?_, ?_, ?_, ?_, ?_, ?_, ?_, ?_, ?_, ?_, ?_, ?_, ?_, ?_, ?_, ?_, ?_, ?_, ?_, ?_, ?_, ?_, ?_, ?_, ?_, ?_, ?_, ?_, ?_, ?_, ?_, ?_, ?_, ?_, ?_, ?_, ?_, ?_, ?_, ?_, ?_, ?_, ?_, ?_, ?_, ?_, ?_, ?_, ?_, ?_, ?_, ?_, trivial⟩
            · intro _ a w1 vs hI ho hn hu K hK
              have e0 : a.tmps[0]? = some (.slice (some ⟨b1, o1, none⟩) l.length q) := ho 0 rfl
              clear hn ho hu
              go_simp
              exact hK _ _ (keeps_refl _) hI rfl
            · intro _ a w1 vs hI ho hn hu K hK
              have e5 : a.tmps[5]? = some (.int .i64 (k : Int)) := ho 5 rfl
              clear hn ho hu
              go_simp
              exact hK _ _ (keeps_refl _) hI rfl
            · intro _ a w1 vs hI ho hn hu K hK
              obtain ⟨e18, g18⟩ : a.tmps[18]? = some (vs 0) ∧ vs 0 = .slice (some ⟨b1, o1, none⟩) l.length q := hn 0 (by decide)
              rw [g18] at e18
              clear g18
              obtain ⟨e19, g19⟩ : a.tmps[19]? = some (vs 1) ∧ vs 1 = .int .i64 (k : Int) := hn 1 (by decide)
              rw [g19] at e19
              clear g19
              clear hn ho hu
              have i1 := HA.out.1
              have i2 := HA.out.2.1
              have i3 := HA.out.2.2
              go_simp
              exact hK _ _ (keeps_refl _) hI rfl
            · intro _ a w1 vs hI ho hn hu K hK
              obtain ⟨e20, g20⟩ : a.tmps[20]? = some (vs 2) ∧ vs 2 = .pointer (some ⟨b1, o1 + k * 4, none⟩) := hn 2 (by decide)
              rw [g20] at e20
              clear g20
              clear hn ho hu
              go_simp
              exact hK _ _ (keeps_refl _) hI rfl
            · intro _ a w1 vs hI ho hn hu K hK
              obtain ⟨e21, g21⟩ : a.tmps[21]? = some (vs 3) ∧ vs 3 = .pointer (some ⟨b1, o1 + k * 4, none⟩) := hn 3 (by decide)
              rw [g21] at e21
              clear g21
              clear hn ho hu
              have c0 := keeps_cell hI A0.out
              go_simp
              exact hK _ _ (keeps_refl _) hI rfl
            · intro _ a w1 vs hI ho hn hu K hK
              have e1 : a.tmps[1]? = some (.slice (some ⟨b2, o2, none⟩) m.length q2) := ho 1 rfl
              clear hn ho hu
              go_simp
              exact hK _ _ (keeps_refl _) hI rfl
            · intro _ a w1 vs hI ho hn hu K hK
              have e5 : a.tmps[5]? = some (.int .i64 (k : Int)) := ho 5 rfl
              clear hn ho hu
              go_simp
              exact hK _ _ (keeps_refl _) hI rfl
            · intro _ a w1 vs hI ho hn hu K hK
              obtain ⟨e23, g23⟩ : a.tmps[23]? = some (vs 5) ∧ vs 5 = .slice (some ⟨b2, o2, none⟩) m.length q2 := hn 5 (by decide)
              rw [g23] at e23
              clear g23
              obtain ⟨e24, g24⟩ : a.tmps[24]? = some (vs 6) ∧ vs 6 = .int .i64 (k : Int) := hn 6 (by decide)
              rw [g24] at e24
              clear g24
              clear hn ho hu
              have i1 := HA.out.1
              have i2 := HA.out.2.1
              have i3 := HA.out.2.2
              go_simp
              exact hK _ _ (keeps_refl _) hI rfl
            · intro _ a w1 vs hI ho hn hu K hK
              obtain ⟨e25, g25⟩ : a.tmps[25]? = some (vs 7) ∧ vs 7 = .pointer (some ⟨b2, o2 + k * 4, none⟩) := hn 7 (by decide)
              rw [g25] at e25
              clear g25
              clear hn ho hu
              go_simp
              exact hK _ _ (keeps_refl _) hI rfl
            · intro _ a w1 vs hI ho hn hu K hK
              obtain ⟨e26, g26⟩ : a.tmps[26]? = some (vs 8) ∧ vs 8 = .pointer (some ⟨b2, o2 + k * 4, none⟩) := hn 8 (by decide)
              rw [g26] at e26
              clear g26
              clear hn ho hu
              have c0 := keeps_cell hI C0.out
              go_simp
              exact hK _ _ (keeps_refl _) hI rfl
            · intro _ a w1 vs hI ho hn hu K hK
              obtain ⟨e22, g22⟩ : a.tmps[22]? = some (vs 4) ∧ vs 4 = .string xn := hn 4 (by decide)
              rw [g22] at e22
              clear g22
              obtain ⟨e27, g27⟩ : a.tmps[27]? = some (vs 9) ∧ vs 9 = .string yn := hn 9 (by decide)
              rw [g27] at e27
              clear g27
              clear hn ho hu
              have i0 := D0.out.1
              have i1 := D0.out.2.1
              have i2 := D0.out.2.2.1
              have i3 := D0.out.2.2.2
              go_simp
              exact hK _ _ (keeps_refl _) hI rfl
            · intro _ a w1 vs hI ho hn hu K hK
              obtain ⟨e28, g28⟩ : a.tmps[28]? = some (vs 10) ∧ vs 10 = .bool true := hn 10 (by decide)
              rw [g28] at e28
              clear g28
              clear hn ho hu
              go_simp
              exact hK _ _ (keeps_refl _) hI rfl
            · intro hs; cases hs
            · intro hs; cases hs
            · intro hs; cases hs
            · intro hs; cases hs
            · intro hs; cases hs
            · intro hs; cases hs
            · intro hs; cases hs
            · intro hs; cases hs
            · intro hs; cases hs
            · intro hs; cases hs
            · intro hs; cases hs
            · intro _ a w1 vs hI ho hn hu K hK
              obtain ⟨e29, g29⟩ : a.tmps[29]? = some (vs 11) ∧ vs 11 = .bool true := hn 11 (by decide)
              rw [g29] at e29
              clear g29
              obtain ⟨e40, g40⟩ : a.tmps[40]? = some (vs 22) ∧ vs 22 = undef := hn 22 (by decide)
              rw [g40] at e40
              clear g40
              clear hn ho hu
              go_simp
              exact hK _ _ (keeps_refl _) hI rfl
            · intro _ a w1 vs hI ho hn hu K hK
              obtain ⟨e41, g41⟩ : a.tmps[41]? = some (vs 23) ∧ vs 23 = .bool true := hn 23 (by decide)
              rw [g41] at e41
              clear g41
              clear hn ho hu
              go_simp
              exact hK _ _ (keeps_refl _) hI rfl
            · intro hs; cases hs
            · intro hs; cases hs
            · intro hs; cases hs
            · intro hs; cases hs
            · intro hs; cases hs
            · intro hs; cases hs
            · intro hs; cases hs
            · intro hs; cases hs
            · intro hs; cases hs
            · intro hs; cases hs
            · intro hs; cases hs
            · intro _ a w1 vs hI ho hn hu K hK
              obtain ⟨e42, g42⟩ : a.tmps[42]? = some (vs 24) ∧ vs 24 = .bool true := hn 24 (by decide)
              rw [g42] at e42
              clear g42
              obtain ⟨e53, g53⟩ : a.tmps[53]? = some (vs 35) ∧ vs 35 = undef := hn 35 (by decide)
              rw [g53] at e53
              clear g53
              clear hn ho hu
              go_simp
              exact hK _ _ (keeps_refl _) hI rfl
            · intro _ a w1 vs hI ho hn hu K hK
              obtain ⟨e54, g54⟩ : a.tmps[54]? = some (vs 36) ∧ vs 36 = .bool true := hn 36 (by decide)
              rw [g54] at e54
              clear g54
              clear hn ho hu
              go_simp
              exact hK _ _ (keeps_refl _) hI rfl
            · intro hs; cases hs
            · intro hs; cases hs
            · intro hs; cases hs
            · intro hs; cases hs
            · intro hs; cases hs
            · intro hs; cases hs
            · intro hs; cases hs
            · intro hs; cases hs
            · intro hs; cases hs
            · intro hs; cases hs
            · intro hs; cases hs
            · intro hs; cases hs
            · intro hs; cases hs
            · intro _ a w1 vs hI ho hn hu K hK
              obtain ⟨e55, g55⟩ : a.tmps[55]? = some (vs 37) ∧ vs 37 = .bool true := hn 37 (by decide)
              rw [g55] at e55
              clear g55
              obtain ⟨e68, g68⟩ : a.tmps[68]? = some (vs 50) ∧ vs 50 = undef := hn 50 (by decide)
              rw [g68] at e68
              clear g68
              clear hn ho hu
              go_simp
              exact hK _ _ (keeps_refl _) hI rfl
          · intro vs wE hI hG
            have eL51 : vs 51 = .bool true := hG 51 (by decide)
            have HKE := Lib.hid hI
            clear hG hI
            simp only [setAll, Nat.zero_add, Nat.reduceAdd, List.setIfInBounds_toArray, List.set_cons_zero, List.set_cons_succ, eL51]
            clear eL51
            generalize vs 0 = y0 at *
            generalize vs 1 = y1 at *
            generalize vs 2 = y2 at *
            generalize vs 3 = y3 at *
            generalize vs 4 = y4 at *
            generalize vs 5 = y5 at *
            generalize vs 6 = y6 at *
            generalize vs 7 = y7 at *
            generalize vs 8 = y8 at *
            generalize vs 9 = y9 at *
            generalize vs 10 = y10 at *
            generalize vs 11 = y11 at *
            generalize vs 12 = y12 at *
            generalize vs 13 = y13 at *
            generalize vs 14 = y14 at *
            generalize vs 15 = y15 at *
            generalize vs 16 = y16 at *
            generalize vs 17 = y17 at *
            generalize vs 18 = y18 at *
            generalize vs 19 = y19 at *
            generalize vs 20 = y20 at *
            generalize vs 21 = y21 at *
            generalize vs 22 = y22 at *
            generalize vs 23 = y23 at *
            generalize vs 24 = y24 at *
            generalize vs 25 = y25 at *
            generalize vs 26 = y26 at *
            generalize vs 27 = y27 at *
            generalize vs 28 = y28 at *
            generalize vs 29 = y29 at *
            generalize vs 30 = y30 at *
            generalize vs 31 = y31 at *
            generalize vs 32 = y32 at *
            generalize vs 33 = y33 at *
            generalize vs 34 = y34 at *
            generalize vs 35 = y35 at *
            generalize vs 36 = y36 at *
            generalize vs 37 = y37 at *
            generalize vs 38 = y38 at *
            generalize vs 39 = y39 at *
            generalize vs 40 = y40 at *
            generalize vs 41 = y41 at *
            generalize vs 42 = y42 at *
            generalize vs 43 = y43 at *
            generalize vs 44 = y44 at *
            generalize vs 45 = y45 at *
            generalize vs 46 = y46 at *
            generalize vs 47 = y47 at *
            generalize vs 48 = y48 at *
            generalize vs 49 = y49 at *
            generalize vs 50 = y50 at *
            have HKW := Lib.hid (hK.out.trans HKE.out)
            go_wp2_with fail
            go_ret
            exact ⟨by rw [HF2.out]; rfl, HKW.out⟩
        have h0 := Decidable.of_not_not h0
        have D0 : Hid ((xn.toList == yn.toList) = true ∧ (!(xn.toList == yn.toList)) = false ∧ (xn.toList != yn.toList) = false ∧ True) := ⟨by rw [txt_eq]; exact decide_eq_true h0, by rw [txt_eq, decide_eq_true h0]; rfl, by unfold bne; rw [txt_eq, decide_eq_true h0]; rfl, trivial⟩
        have G0 := Lib.hid h0
        clear h0
        by_cases h1 : xd ≠ yd
        · have D1 : Hid ((xd == yd) = false ∧ (!(xd == yd)) = true ∧ (xd != yd) = true ∧ (xd ^^ yd) = true) := bool_ne h1
          have HF2 := Lib.hid (HF.out fun e => h1 (congrArg (EntR.d) e))
          clear h1
          go_wp2_with fail
          refine wp_region_stage [18, 19, 20, 21, 22, 23, 24, 25, 26, 27, 28, 29, 30, 31, 32, 33, 34, 35, 36, 37, 38, 39, 40, 41, 42, 43, 44, 45, 46, 47, 48, 49, 50, 51, 52, 53, 54, 55, 56, 57, 58, 59, 60, 61, 62, 63, 64, 65, 66, 67, 68, 69] [[], [], [0, 1], [2], [3], [], [], [5, 6], [7], [8], [4, 9], [10], [11], [11], [11, 12, 13], [11, 14], [11, 15], [11], [11], [11, 17, 18], [11, 19], [11, 20], [11, 16, 21], [11, 22], [23], [24], [24], [24], [24], [24], [24], [24], [24], [24], [24], [24], [24, 35], [36], [37], [37], [37], [37], [37], [37], [37], [37], [37], [37], [37], [37], [37], [37, 50]] [] [0, 0, 0, 0, 0, 0, 0, 0, 0, 0, 0, 0, 0, 0, 0, 0, 0, 0, 0, 0, 0, 0, 0, 0, 0, 0, 0, 0, 0, 0, 0, 0, 0, 0, 0, 0, 0, 0, 0, 0, 0, 0, 0, 0, 0, 0, 0, 0, 0, 0, 0, 0] [25, 26, 27, 28, 29, 30, 31, 32, 33, 34, 35, 38, 39, 40, 41, 42, 43, 44, 45, 46, 47, 48, 49, 50] (fun i v _ => nsm1 b1 o1 l.length q b2 o2 m.length q2 k xn yn xd yd xz yz pc pe xc.length yc.length qc qe i v) (fun w w' => Keeps w w') (fun _ _ w' => Keeps wr w') (by kernel_rfl) (by kernel_rfl) (by kernel_rfl) (by kernel_rfl) (by kernel_rfl) (by kernel_rfl) (by kernel_rfl) ?_ ?_ ?_ ?_ ?_ ?_ ?_
          · exact fun i v w w' c h => h
          · exact fun w => keeps_refl w
          · exact fun i s vs w _ h => h
          · refine ⟨?_, ?_, ?_, ?_, ?_, ?_, ?_, ?_, ?_, ?_, ?_, ?_, ?_, ?_, ?_, ?_, ?_, ?_, ?_, ?_, ?_, ?_, ?_, ?_, ?_, ?_, ?_, ?_, ?_, ?_, ?_, ?_, ?_, ?_, ?_, ?_, ?_, ?_, ?_, ?_, ?_, ?_, ?_, ?_, ?_, ?_, ?_, ?_, ?_, ?_, ?_, ?_, trivial⟩
            · exact fun g b h => by (cases h)
            · exact fun g b h => by (cases h)
            · exact fun g b h => by (cases h)
            · exact fun g b h => by (cases h)
            · exact fun g b h => by (cases h)
            · exact fun g b h => by (cases h)
            · exact fun g b h => by (cases h)
            · exact fun g b h => by (cases h)
            · exact fun g b h => by (cases h)
            · exact fun g b h => by (cases h)
            · exact fun g b h => by (cases h)
            · exact fun g b h => by (cases h)
            · exact fun g b h => by (cases h; exact ⟨by decide, fun v w h => h⟩)
            · exact fun g b h => by (cases h; exact ⟨by decide, fun v w h => h⟩)
            · exact fun g b h => by (cases h; exact ⟨by decide, fun v w h => h⟩)
            · exact fun g b h => by (cases h; exact ⟨by decide, fun v w h => h⟩)
            · exact fun g b h => by (cases h; exact ⟨by decide, fun v w h => h⟩)
            · exact fun g b h => by (cases h; exact ⟨by decide, fun v w h => h⟩)
            · exact fun g b h => by (cases h; exact ⟨by decide, fun v w h => h⟩)
            · exact fun g b h => by (cases h; exact ⟨by decide, fun v w h => h⟩)
            · exact fun g b h => by (cases h; exact ⟨by decide, fun v w h => h⟩)
            · exact fun g b h => by (cases h; exact ⟨by decide, fun v w h => h⟩)
            · exact fun g b h => by (cases h; exact ⟨by decide, fun v w h => h⟩)
            · exact fun g b h => by (cases h)
            · exact fun g b h => by (cases h)
            · exact ⟨⟨_, _, rfl, by decide, fun v w h => by (first | (change v = _ at h; subst h; intro x; cases x) | skip)⟩, fun w => rfl⟩
            · exact ⟨⟨_, _, rfl, by decide, fun v w h => by (first | (change v = _ at h; subst h; intro x; cases x) | skip)⟩, fun w => rfl⟩
            · exact ⟨⟨_, _, rfl, by decide, fun v w h => by (first | (change v = _ at h; subst h; intro x; cases x) | skip)⟩, fun w => rfl⟩
            · exact ⟨⟨_, _, rfl, by decide, fun v w h => by (first | (change v = _ at h; subst h; intro x; cases x) | skip)⟩, fun w => rfl⟩
            · exact ⟨⟨_, _, rfl, by decide, fun v w h => by (first | (change v = _ at h; subst h; intro x; cases x) | skip)⟩, fun w => rfl⟩
            · exact ⟨⟨_, _, rfl, by decide, fun v w h => by (first | (change v = _ at h; subst h; intro x; cases x) | skip)⟩, fun w => rfl⟩
            · exact ⟨⟨_, _, rfl, by decide, fun v w h => by (first | (change v = _ at h; subst h; intro x; cases x) | skip)⟩, fun w => rfl⟩
            · exact ⟨⟨_, _, rfl, by decide, fun v w h => by (first | (change v = _ at h; subst h; intro x; cases x) | skip)⟩, fun w => rfl⟩
            · exact ⟨⟨_, _, rfl, by decide, fun v w h => by (first | (change v = _ at h; subst h; intro x; cases x) | skip)⟩, fun w => rfl⟩
            · exact ⟨⟨_, _, rfl, by decide, fun v w h => by (first | (change v = _ at h; subst h; intro x; cases x) | skip)⟩, fun w => rfl⟩
            · exact ⟨⟨_, _, rfl, by decide, fun v w h => by (first | (change v = _ at h; subst h; intro x; cases x) | skip)⟩, fun w => rfl⟩
            · exact fun g b h => by (cases h)
            · exact fun g b h => by (cases h)
            · exact ⟨⟨_, _, rfl, by decide, fun v w h => by (first | (change v = _ at h; subst h; intro x; cases x) | skip)⟩, fun w => rfl⟩
            · exact ⟨⟨_, _, rfl, by decide, fun v w h => by (first | (change v = _ at h; subst h; intro x; cases x) | skip)⟩, fun w => rfl⟩
            · exact ⟨⟨_, _, rfl, by decide, fun v w h => by (first | (change v = _ at h; subst h; intro x; cases x) | skip)⟩, fun w => rfl⟩
            · exact ⟨⟨_, _, rfl, by decide, fun v w h => by (first | (change v = _ at h; subst h; intro x; cases x) | skip)⟩, fun w => rfl⟩
            · exact ⟨⟨_, _, rfl, by decide, fun v w h => by (first | (change v = _ at h; subst h; intro x; cases x) | skip)⟩, fun w => rfl⟩
            · exact ⟨⟨_, _, rfl, by decide, fun v w h => by (first | (change v = _ at h; subst h; intro x; cases x) | skip)⟩, fun w => rfl⟩
            · exact ⟨⟨_, _, rfl, by decide, fun v w h => by (first | (change v = _ at h; subst h; intro x; cases x) | skip)⟩, fun w => rfl⟩
            · exact ⟨⟨_, _, rfl, by decide, fun v w h => by (first | (change v = _ at h; subst h; intro x; cases x) | skip)⟩, fun w => rfl⟩
            · exact ⟨⟨_, _, rfl, by decide, fun v w h => by (first | (change v = _ at h; subst h; intro x; cases x) | skip)⟩, fun w => rfl⟩
            · exact ⟨⟨_, _, rfl, by decide, fun v w h => by (first | (change v = _ at h; subst h; intro x; cases x) | skip)⟩, fun w => rfl⟩
            · exact ⟨⟨_, _, rfl, by decide, fun v w h => by (first | (change v = _ at h; subst h; intro x; cases x) | skip)⟩, fun w => rfl⟩
            · exact ⟨⟨_, _, rfl, by decide, fun v w h => by (first | (change v = _ at h; subst h; intro x; cases x) | skip)⟩, fun w => rfl⟩
            · exact ⟨⟨_, _, rfl, by decide, fun v w h => by (first | (change v = _ at h; subst h; intro x; cases x) | skip)⟩, fun w => rfl⟩
            · exact fun g b h => by (cases h)
          · exact fun _ _ => keeps_refl wr
          · refine ⟨?_, ?_, ?_, ?_, ?_, ?_, ?_, ?_, ?_, ?_, ?_, ?_, ?_, ?_, ?_, ?_, ?_, ?_, ?_, ?_, ?_, ?_, ?_, ?_, ?_, ?_, ?_, ?_, ?_, ?_, ?_, ?_, ?_, ?_, ?_, ?_, ?_, ?_, ?_, ?_, ?_, ?_, ?_, ?_, ?_, ?_, ?_, ?_, ?_, ?_, ?_, ?_, trivial⟩
            · intro _ a w1 vs hI ho hn hu K hK
              have e0 : a.tmps[0]? = some (.slice (some ⟨b1, o1, none⟩) l.length q) := ho 0 rfl
              clear hn ho hu
              go_simp
              exact hK _ _ (keeps_refl _) hI rfl
            · intro _ a w1 vs hI ho hn hu K hK
              have e5 : a.tmps[5]? = some (.int .i64 (k : Int)) := ho 5 rfl
              clear hn ho hu
              go_simp
              exact hK _ _ (keeps_refl _) hI rfl
            · intro _ a w1 vs hI ho hn hu K hK
              obtain ⟨e18, g18⟩ : a.tmps[18]? = some (vs 0) ∧ vs 0 = .slice (some ⟨b1, o1, none⟩) l.length q := hn 0 (by decide)
              rw [g18] at e18
              clear g18
              obtain ⟨e19, g19⟩ : a.tmps[19]? = some (vs 1) ∧ vs 1 = .int .i64 (k : Int) := hn 1 (by decide)
              rw [g19] at e19
              clear g19
              clear hn ho hu
              have i1 := HA.out.1
              have i2 := HA.out.2.1
              have i3 := HA.out.2.2
              go_simp
              exact hK _ _ (keeps_refl _) hI rfl
            · intro _ a w1 vs hI ho hn hu K hK
              obtain ⟨e20, g20⟩ : a.tmps[20]? = some (vs 2) ∧ vs 2 = .pointer (some ⟨b1, o1 + k * 4, none⟩) := hn 2 (by decide)
              rw [g20] at e20
              clear g20
              clear hn ho hu
              go_simp
              exact hK _ _ (keeps_refl _) hI rfl
            · intro _ a w1 vs hI ho hn hu K hK
              obtain ⟨e21, g21⟩ : a.tmps[21]? = some (vs 3) ∧ vs 3 = .pointer (some ⟨b1, o1 + k * 4, none⟩) := hn 3 (by decide)
              rw [g21] at e21
              clear g21
              clear hn ho hu
              have c0 := keeps_cell hI A0.out
              go_simp
              exact hK _ _ (keeps_refl _) hI rfl
            · intro _ a w1 vs hI ho hn hu K hK
              have e1 : a.tmps[1]? = some (.slice (some ⟨b2, o2, none⟩) m.length q2) := ho 1 rfl
              clear hn ho hu
              go_simp
              exact hK _ _ (keeps_refl _) hI rfl
            · intro _ a w1 vs hI ho hn hu K hK
              have e5 : a.tmps[5]? = some (.int .i64 (k : Int)) := ho 5 rfl
              clear hn ho hu
              go_simp
              exact hK _ _ (keeps_refl _) hI rfl
            · intro _ a w1 vs hI ho hn hu K hK
              obtain ⟨e23, g23⟩ : a.tmps[23]? = some (vs 5) ∧ vs 5 = .slice (some ⟨b2, o2, none⟩) m.length q2 := hn 5 (by decide)
              rw [g23] at e23
              clear g23
              obtain ⟨e24, g24⟩ : a.tmps[24]? = some (vs 6) ∧ vs 6 = .int .i64 (k : Int) := hn 6 (by decide)
              rw [g24] at e24
              clear g24
              clear hn ho hu
              have i1 := HA.out.1
              have i2 := HA.out.2.1
              have i3 := HA.out.2.2
              go_simp
              exact hK _ _ (keeps_refl _) hI rfl
            · intro _ a w1 vs hI ho hn hu K hK
              obtain ⟨e25, g25⟩ : a.tmps[25]? = some (vs 7) ∧ vs 7 = .pointer (some ⟨b2, o2 + k * 4, none⟩) := hn 7 (by decide)
              rw [g25] at e25
              clear g25
              clear hn ho hu
              go_simp
              exact hK _ _ (keeps_refl _) hI rfl
            · intro _ a w1 vs hI ho hn hu K hK
              obtain ⟨e26, g26⟩ : a.tmps[26]? = some (vs 8) ∧ vs 8 = .pointer (some ⟨b2, o2 + k * 4, none⟩) := hn 8 (by decide)
              rw [g26] at e26
              clear g26
              clear hn ho hu
              have c0 := keeps_cell hI C0.out
              go_simp
              exact hK _ _ (keeps_refl _) hI rfl
            · intro _ a w1 vs hI ho hn hu K hK
              obtain ⟨e22, g22⟩ : a.tmps[22]? = some (vs 4) ∧ vs 4 = .string xn := hn 4 (by decide)
              rw [g22] at e22
              clear g22
              obtain ⟨e27, g27⟩ : a.tmps[27]? = some (vs 9) ∧ vs 9 = .string yn := hn 9 (by decide)
              rw [g27] at e27
              clear g27
              clear hn ho hu
              have i0 := D0.out.1
              have i1 := D0.out.2.1
              have i2 := D0.out.2.2.1
              have i3 := D0.out.2.2.2
              go_simp
              exact hK _ _ (keeps_refl _) hI rfl
            · intro _ a w1 vs hI ho hn hu K hK
              obtain ⟨e28, g28⟩ : a.tmps[28]? = some (vs 10) ∧ vs 10 = .bool false := hn 10 (by decide)
              rw [g28] at e28
              clear g28
              clear hn ho hu
              go_simp
              exact hK _ _ (keeps_refl _) hI rfl
            · intro _ a w1 vs hI ho hn hu K hK
              have e0 : a.tmps[0]? = some (.slice (some ⟨b1, o1, none⟩) l.length q) := ho 0 rfl
              clear hn ho hu
              go_simp
              exact hK _ _ (keeps_refl _) hI rfl
            · intro _ a w1 vs hI ho hn hu K hK
              have e5 : a.tmps[5]? = some (.int .i64 (k : Int)) := ho 5 rfl
              clear hn ho hu
              go_simp
              exact hK _ _ (keeps_refl _) hI rfl
            · intro _ a w1 vs hI ho hn hu K hK
              obtain ⟨e30, g30⟩ : a.tmps[30]? = some (vs 12) ∧ vs 12 = .slice (some ⟨b1, o1, none⟩) l.length q := hn 12 (by decide)
              rw [g30] at e30
              clear g30
              obtain ⟨e31, g31⟩ : a.tmps[31]? = some (vs 13) ∧ vs 13 = .int .i64 (k : Int) := hn 13 (by decide)
              rw [g31] at e31
              clear g31
              clear hn ho hu
              have i1 := HA.out.1
              have i2 := HA.out.2.1
              have i3 := HA.out.2.2
              go_simp
              exact hK _ _ (keeps_refl _) hI rfl
            · intro _ a w1 vs hI ho hn hu K hK
              obtain ⟨e32, g32⟩ : a.tmps[32]? = some (vs 14) ∧ vs 14 = .pointer (some ⟨b1, o1 + k * 4, none⟩) := hn 14 (by decide)
              rw [g32] at e32
              clear g32
              clear hn ho hu
              go_simp
              exact hK _ _ (keeps_refl _) hI rfl
            · intro _ a w1 vs hI ho hn hu K hK
              obtain ⟨e33, g33⟩ : a.tmps[33]? = some (vs 15) ∧ vs 15 = .pointer (some ⟨b1, o1 + k * 4 + 1, none⟩) := hn 15 (by decide)
              rw [g33] at e33
              clear g33
              clear hn ho hu
              have c0 := keeps_cell hI A1.out
              go_simp
              exact hK _ _ (keeps_refl _) hI rfl
            · intro _ a w1 vs hI ho hn hu K hK
              have e1 : a.tmps[1]? = some (.slice (some ⟨b2, o2, none⟩) m.length q2) := ho 1 rfl
              clear hn ho hu
              go_simp
              exact hK _ _ (keeps_refl _) hI rfl
            · intro _ a w1 vs hI ho hn hu K hK
              have e5 : a.tmps[5]? = some (.int .i64 (k : Int)) := ho 5 rfl
              clear hn ho hu
              go_simp
              exact hK _ _ (keeps_refl _) hI rfl
            · intro _ a w1 vs hI ho hn hu K hK
              obtain ⟨e35, g35⟩ : a.tmps[35]? = some (vs 17) ∧ vs 17 = .slice (some ⟨b2, o2, none⟩) m.length q2 := hn 17 (by decide)
              rw [g35] at e35
              clear g35
              obtain ⟨e36, g36⟩ : a.tmps[36]? = some (vs 18) ∧ vs 18 = .int .i64 (k : Int) := hn 18 (by decide)
              rw [g36] at e36
              clear g36
              clear hn ho hu
              have i1 := HA.out.1
              have i2 := HA.out.2.1
              have i3 := HA.out.2.2
              go_simp
              exact hK _ _ (keeps_refl _) hI rfl
            · intro _ a w1 vs hI ho hn hu K hK
              obtain ⟨e37, g37⟩ : a.tmps[37]? = some (vs 19) ∧ vs 19 = .pointer (some ⟨b2, o2 + k * 4, none⟩) := hn 19 (by decide)
              rw [g37] at e37
              clear g37
              clear hn ho hu
              go_simp
              exact hK _ _ (keeps_refl _) hI rfl
            · intro _ a w1 vs hI ho hn hu K hK
              obtain ⟨e38, g38⟩ : a.tmps[38]? = some (vs 20) ∧ vs 20 = .pointer (some ⟨b2, o2 + k * 4 + 1, none⟩) := hn 20 (by decide)
              rw [g38] at e38
              clear g38
              clear hn ho hu
              have c0 := keeps_cell hI C1.out
              go_simp
              exact hK _ _ (keeps_refl _) hI rfl
            · intro _ a w1 vs hI ho hn hu K hK
              obtain ⟨e34, g34⟩ : a.tmps[34]? = some (vs 16) ∧ vs 16 = .bool xd := hn 16 (by decide)
              rw [g34] at e34
              clear g34
              obtain ⟨e39, g39⟩ : a.tmps[39]? = some (vs 21) ∧ vs 21 = .bool yd := hn 21 (by decide)
              rw [g39] at e39
              clear g39
              clear hn ho hu
              have i0 := D1.out.1
              have i1 := D1.out.2.1
              have i2 := D1.out.2.2.1
              have i3 := D1.out.2.2.2
              go_simp
              exact hK _ _ (keeps_refl _) hI rfl
            · intro _ a w1 vs hI ho hn hu K hK
              obtain ⟨e29, g29⟩ : a.tmps[29]? = some (vs 11) ∧ vs 11 = .bool false := hn 11 (by decide)
              rw [g29] at e29
              clear g29
              obtain ⟨e40, g40⟩ : a.tmps[40]? = some (vs 22) ∧ vs 22 = .bool true := hn 22 (by decide)
              rw [g40] at e40
              clear g40
              clear hn ho hu
              go_simp
              exact hK _ _ (keeps_refl _) hI rfl
            · intro _ a w1 vs hI ho hn hu K hK
              obtain ⟨e41, g41⟩ : a.tmps[41]? = some (vs 23) ∧ vs 23 = .bool true := hn 23 (by decide)
              rw [g41] at e41
              clear g41
              clear hn ho hu
              go_simp
              exact hK _ _ (keeps_refl _) hI rfl
            · intro hs; cases hs
            · intro hs; cases hs
            · intro hs; cases hs
            · intro hs; cases hs
            · intro hs; cases hs
            · intro hs; cases hs
            · intro hs; cases hs
            · intro hs; cases hs
            · intro hs; cases hs
            · intro hs; cases hs
            · intro hs; cases hs
            · intro _ a w1 vs hI ho hn hu K hK
              obtain ⟨e42, g42⟩ : a.tmps[42]? = some (vs 24) ∧ vs 24 = .bool true := hn 24 (by decide)
              rw [g42] at e42
              clear g42
              obtain ⟨e53, g53⟩ : a.tmps[53]? = some (vs 35) ∧ vs 35 = undef := hn 35 (by decide)
              rw [g53] at e53
              clear g53
              clear hn ho hu
              go_simp
              exact hK _ _ (keeps_refl _) hI rfl
            · intro _ a w1 vs hI ho hn hu K hK
              obtain ⟨e54, g54⟩ : a.tmps[54]? = some (vs 36) ∧ vs 36 = .bool true := hn 36 (by decide)
              rw [g54] at e54
              clear g54
              clear hn ho hu
              go_simp
              exact hK _ _ (keeps_refl _) hI rfl
            · intro hs; cases hs
            · intro hs; cases hs
            · intro hs; cases hs
            · intro hs; cases hs
            · intro hs; cases hs
            · intro hs; cases hs
            · intro hs; cases hs
            · intro hs; cases hs
            · intro hs; cases hs
            · intro hs; cases hs
            · intro hs; cases hs
            · intro hs; cases hs
            · intro hs; cases hs
            · intro _ a w1 vs hI ho hn hu K hK
              obtain ⟨e55, g55⟩ : a.tmps[55]? = some (vs 37) ∧ vs 37 = .bool true := hn 37 (by decide)
              rw [g55] at e55
              clear g55
              obtain ⟨e68, g68⟩ : a.tmps[68]? = some (vs 50) ∧ vs 50 = undef := hn 50 (by decide)
              rw [g68] at e68
              clear g68
              clear hn ho hu
              go_simp
              exact hK _ _ (keeps_refl _) hI rfl
          · intro vs wE hI hG
            have eL51 : vs 51 = .bool true := hG 51 (by decide)
            have HKE := Lib.hid hI
            clear hG hI
            simp only [setAll, Nat.zero_add, Nat.reduceAdd, List.setIfInBounds_toArray, List.set_cons_zero, List.set_cons_succ, eL51]
            clear eL51
            generalize vs 0 = y0 at *
            generalize vs 1 = y1 at *
            generalize vs 2 = y2 at *
            generalize vs 3 = y3 at *
            generalize vs 4 = y4 at *
            generalize vs 5 = y5 at *
            generalize vs 6 = y6 at *
            generalize vs 7 = y7 at *
            generalize vs 8 = y8 at *
            generalize vs 9 = y9 at *
            generalize vs 10 = y10 at *
            generalize vs 11 = y11 at *
            generalize vs 12 = y12 at *
            generalize vs 13 = y13 at *
            generalize vs 14 = y14 at *
            generalize vs 15 = y15 at *
            generalize vs 16 = y16 at *
            generalize vs 17 = y17 at *
            generalize vs 18 = y18 at *
            generalize vs 19 = y19 at *
            generalize vs 20 = y20 at *
            generalize vs 21 = y21 at *
            generalize vs 22 = y22 at *
            generalize vs 23 = y23 at *
            generalize vs 24 = y24 at *
            generalize vs 25 = y25 at *
            generalize vs 26 = y26 at *
            generalize vs 27 = y27 at *
            generalize vs 28 = y28 at *
            generalize vs 29 = y29 at *
            generalize vs 30 = y30 at *
            generalize vs 31 = y31 at *
            generalize vs 32 = y32 at *
            generalize vs 33 = y33 at *
            generalize vs 34 = y34 at *
            generalize vs 35 = y35 at *
            generalize vs 36 = y36 at *
            generalize vs 37 = y37 at *
            generalize vs 38 = y38 at *
            generalize vs 39 = y39 at *
            generalize vs 40 = y40 at *
            generalize vs 41 = y41 at *
            generalize vs 42 = y42 at *
            generalize vs 43 = y43 at *
            generalize vs 44 = y44 at *
            generalize vs 45 = y45 at *
            generalize vs 46 = y46 at *
            generalize vs 47 = y47 at *
            generalize vs 48 = y48 at *
            generalize vs 49 = y49 at *
            generalize vs 50 = y50 at *
            have HKW := Lib.hid (hK.out.trans HKE.out)
            go_wp2_with fail
            go_ret
            exact ⟨by rw [HF2.out]; rfl, HKW.out⟩
        have h1 := Decidable.of_not_not h1
        have D1 : Hid ((xd == yd) = true ∧ (!(xd == yd)) = false ∧ (xd != yd) = false ∧ (xd ^^ yd) = false) := ⟨by rw [h1]; simp, by rw [h1]; simp, by rw [h1]; simp, by rw [h1]; simp⟩
        have G1 := Lib.hid h1
        clear h1
        by_cases h2 : xz ≠ yz
        · have D2 : Hid ((xz == yz) = false ∧ (!decide (xz = yz)) = true ∧ (xz != yz) = true ∧ decide (xz = yz) = false) := ⟨beq_false_of_ne h2, by rw [decide_eq_false h2]; rfl, by unfold bne; rw [beq_false_of_ne h2]; rfl, decide_eq_false h2⟩
          have HF2 := Lib.hid (HF.out fun e => h2 (congrArg (EntR.z) e))
          clear h2
          go_wp2_with fail
          refine wp_region_stage [18, 19, 20, 21, 22, 23, 24, 25, 26, 27, 28, 29, 30, 31, 32, 33, 34, 35, 36, 37, 38, 39, 40, 41, 42, 43, 44, 45, 46, 47, 48, 49, 50, 51, 52, 53, 54, 55, 56, 57, 58, 59, 60, 61, 62, 63, 64, 65, 66, 67, 68, 69] [[], [], [0, 1], [2], [3], [], [], [5, 6], [7], [8], [4, 9], [10], [11], [11], [11, 12, 13], [11, 14], [11, 15], [11], [11], [11, 17, 18], [11, 19], [11, 20], [11, 16, 21], [11, 22], [23], [24], [24], [24, 25, 26], [24, 27], [24, 28], [24], [24], [24, 30, 31], [24, 32], [24, 33], [24, 29, 34], [24, 35], [36], [37], [37], [37], [37], [37], [37], [37], [37], [37], [37], [37], [37], [37], [37, 50]] [] [0, 0, 0, 0, 0, 0, 0, 0, 0, 0, 0, 0, 0, 0, 0, 0, 0, 0, 0, 0, 0, 0, 0, 0, 0, 0, 0, 0, 0, 0, 0, 0, 0, 0, 0, 0, 0, 0, 0, 0, 0, 0, 0, 0, 0, 0, 0, 0, 0, 0, 0, 0] [38, 39, 40, 41, 42, 43, 44, 45, 46, 47, 48, 49, 50] (fun i v _ => nsm2 b1 o1 l.length q b2 o2 m.length q2 k xn yn xd yd xz yz pc pe xc.length yc.length qc qe i v) (fun w w' => Keeps w w') (fun _ _ w' => Keeps wr w') (by kernel_rfl) (by kernel_rfl) (by kernel_rfl) (by kernel_rfl) (by kernel_rfl) (by kernel_rfl) (by kernel_rfl) ?_ ?_ ?_ ?_ ?_ ?_ ?_
          · exact fun i v w w' c h => h
          · exact fun w => keeps_refl w
          · exact fun i s vs w _ h => h
          · refine ⟨?_, ?_, ?_, ?_, ?_, ?_, ?_, ?_, ?_, ?_, ?_, ?_, ?_, ?_, ?_, ?_, ?_, ?_, ?_, ?_, ?_, ?_, ?_, ?_, ?_, ?_, ?_, ?_, ?_, ?_, ?_, ?_, ?_, ?_, ?_, ?_, ?_, ?_, ?_, ?_, ?_, ?_, ?_, ?_, ?_, ?_, ?_, ?_, ?_, ?_, ?_, ?_, trivial⟩
            · exact fun g b h => by (cases h)
            · exact fun g b h => by (cases h)
            · exact fun g b h => by (cases h)
            · exact fun g b h => by (cases h)
            · exact fun g b h => by (cases h)
            · exact fun g b h => by (cases h)
            · exact fun g b h => by (cases h)
            · exact fun g b h => by (cases h)
            · exact fun g b h => by (cases h)
            · exact fun g b h => by (cases h)
            · exact fun g b h => by (cases h)
            · exact fun g b h => by (cases h)
            · exact fun g b h => by (cases h; exact ⟨by decide, fun v w h => h⟩)
            · exact fun g b h => by (cases h; exact ⟨by decide, fun v w h => h⟩)
            · exact fun g b h => by (cases h; exact ⟨by decide, fun v w h => h⟩)
            · exact fun g b h => by (cases h; exact ⟨by decide, fun v w h => h⟩)
            · exact fun g b h => by (cases h; exact ⟨by decide, fun v w h => h⟩)
            · exact fun g b h => by (cases h; exact ⟨by decide, fun v w h => h⟩)
            · exact fun g b h => by (cases h; exact ⟨by decide, fun v w h => h⟩)
            · exact fun g b h => by (cases h; exact ⟨by decide, fun v w h => h⟩)
            · exact fun g b h => by (cases h; exact ⟨by decide, fun v w h => h⟩)
            · exact fun g b h => by (cases h; exact ⟨by decide, fun v w h => h⟩)
            · exact fun g b h => by (cases h; exact ⟨by decide, fun v w h => h⟩)
            · exact fun g b h => by (cases h)
            · exact fun g b h => by (cases h)
            · exact fun g b h => by (cases h; exact ⟨by decide, fun v w h => h⟩)
            · exact fun g b h => by (cases h; exact ⟨by decide, fun v w h => h⟩)
            · exact fun g b h => by (cases h; exact ⟨by decide, fun v w h => h⟩)
            · exact fun g b h => by (cases h; exact ⟨by decide, fun v w h => h⟩)
            · exact fun g b h => by (cases h; exact ⟨by decide, fun v w h => h⟩)
            · exact fun g b h => by (cases h; exact ⟨by decide, fun v w h => h⟩)
            · exact fun g b h => by (cases h; exact ⟨by decide, fun v w h => h⟩)
            · exact fun g b h => by (cases h; exact ⟨by decide, fun v w h => h⟩)
            · exact fun g b h => by (cases h; exact ⟨by decide, fun v w h => h⟩)
            · exact fun g b h => by (cases h; exact ⟨by decide, fun v w h => h⟩)
            · exact fun g b h => by (cases h; exact ⟨by decide, fun v w h => h⟩)
            · exact fun g b h => by (cases h)
            · exact fun g b h => by (cases h)
            · exact ⟨⟨_, _, rfl, by decide, fun v w h => by (first | (change v = _ at h; subst h; intro x; cases x) | skip)⟩, fun w => rfl⟩
            · exact ⟨⟨_, _, rfl, by decide, fun v w h => by (first | (change v = _ at h; subst h; intro x; cases x) | skip)⟩, fun w => rfl⟩
            · exact ⟨⟨_, _, rfl, by decide, fun v w h => by (first | (change v = _ at h; subst h; intro x; cases x) | skip)⟩, fun w => rfl⟩
            · exact ⟨⟨_, _, rfl, by decide, fun v w h => by (first | (change v = _ at h; subst h; intro x; cases x) | skip)⟩, fun w => rfl⟩
            · exact ⟨⟨_, _, rfl, by decide, fun v w h => by (first | (change v = _ at h; subst h; intro x; cases x) | skip)⟩, fun w => rfl⟩
            · exact ⟨⟨_, _, rfl, by decide, fun v w h => by (first | (change v = _ at h; subst h; intro x; cases x) | skip)⟩, fun w => rfl⟩
            · exact ⟨⟨_, _, rfl, by decide, fun v w h => by (first | (change v = _ at h; subst h; intro x; cases x) | skip)⟩, fun w => rfl⟩
            · exact ⟨⟨_, _, rfl, by decide, fun v w h => by (first | (change v = _ at h; subst h; intro x; cases x) | skip)⟩, fun w => rfl⟩
            · exact ⟨⟨_, _, rfl, by decide, fun v w h => by (first | (change v = _ at h; subst h; intro x; cases x) | skip)⟩, fun w => rfl⟩
            · exact ⟨⟨_, _, rfl, by decide, fun v w h => by (first | (change v = _ at h; subst h; intro x; cases x) | skip)⟩, fun w => rfl⟩
            · exact ⟨⟨_, _, rfl, by decide, fun v w h => by (first | (change v = _ at h; subst h; intro x; cases x) | skip)⟩, fun w => rfl⟩
            · exact ⟨⟨_, _, rfl, by decide, fun v w h => by (first | (change v = _ at h; subst h; intro x; cases x) | skip)⟩, fun w => rfl⟩
            · exact ⟨⟨_, _, rfl, by decide, fun v w h => by (first | (change v = _ at h; subst h; intro x; cases x) | skip)⟩, fun w => rfl⟩
            · exact fun g b h => by (cases h)
          · exact fun _ _ => keeps_refl wr
          · refine ⟨?_, ?_, ?_, ?_, ?_, ?_, ?_, ?_, ?_, ?_, ?_, ?_, ?_, ?_, ?_, ?_, ?_, ?_, ?_, ?_, ?_, ?_, ?_, ?_, ?_, ?_, ?_, ?_, ?_, ?_, ?_, ?_, ?_, ?_, ?_, ?_, ?_, ?_, ?_, ?_, ?_, ?_, ?_, ?_, ?_, ?_, ?_, ?_, ?_, ?_, ?_, ?_, trivial⟩
            · intro _ a w1 vs hI ho hn hu K hK
              have e0 : a.tmps[0]? = some (.slice (some ⟨b1, o1, none⟩) l.length q) := ho 0 rfl
              clear hn ho hu
              go_simp
              exact hK _ _ (keeps_refl _) hI rfl
            · intro _ a w1 vs hI ho hn hu K hK
              have e5 : a.tmps[5]? = some (.int .i64 (k : Int)) := ho 5 rfl
              clear hn ho hu
              go_simp
              exact hK _ _ (keeps_refl _) hI rfl
            · intro _ a w1 vs hI ho hn hu K hK
              obtain ⟨e18, g18⟩ : a.tmps[18]? = some (vs 0) ∧ vs 0 = .slice (some ⟨b1, o1, none⟩) l.length q := hn 0 (by decide)
              rw [g18] at e18
              clear g18
              obtain ⟨e19, g19⟩ : a.tmps[19]? = some (vs 1) ∧ vs 1 = .int .i64 (k : Int) := hn 1 (by decide)
              rw [g19] at e19
              clear g19
              clear hn ho hu
              have i1 := HA.out.1
              have i2 := HA.out.2.1
              have i3 := HA.out.2.2
              go_simp
              exact hK _ _ (keeps_refl _) hI rfl
            · intro _ a w1 vs hI ho hn hu K hK
              obtain ⟨e20, g20⟩ : a.tmps[20]? = some (vs 2) ∧ vs 2 = .pointer (some ⟨b1, o1 + k * 4, none⟩) := hn 2 (by decide)
              rw [g20] at e20
              clear g20
              clear hn ho hu
              go_simp
              exact hK _ _ (keeps_refl _) hI rfl
            · intro _ a w1 vs hI ho hn hu K hK
              obtain ⟨e21, g21⟩ : a.tmps[21]? = some (vs 3) ∧ vs 3 = .pointer (some ⟨b1, o1 + k * 4, none⟩) := hn 3 (by decide)
              rw [g21] at e21
              clear g21
              clear hn ho hu
              have c0 := keeps_cell hI A0.out
              go_simp
              exact hK _ _ (keeps_refl _) hI rfl
            · intro _ a w1 vs hI ho hn hu K hK
              have e1 : a.tmps[1]? = some (.slice (some ⟨b2, o2, none⟩) m.length q2) := ho 1 rfl
              clear hn ho hu
              go_simp
              exact hK _ _ (keeps_refl _) hI rfl
            · intro _ a w1 vs hI ho hn hu K hK
              have e5 : a.tmps[5]? = some (.int .i64 (k : Int)) := ho 5 rfl
              clear hn ho hu
              go_simp
              exact hK _ _ (keeps_refl _) hI rfl
            · intro _ a w1 vs hI ho hn hu K hK
              obtain ⟨e23, g23⟩ : a.tmps[23]? = some (vs 5) ∧ vs 5 = .slice (some ⟨b2, o2, none⟩) m.length q2 := hn 5 (by decide)
              rw [g23] at e23
              clear g23
              obtain ⟨e24, g24⟩ : a.tmps[24]? = some (vs 6) ∧ vs 6 = .int .i64 (k : Int) := hn 6 (by decide)
              rw [g24] at e24
              clear g24
              clear hn ho hu
              have i1 := HA.out.1
              have i2 := HA.out.2.1
              have i3 := HA.out.2.2
              go_simp
              exact hK _ _ (keeps_refl _) hI rfl
            · intro _ a w1 vs hI ho hn hu K hK
              obtain ⟨e25, g25⟩ : a.tmps[25]? = some (vs 7) ∧ vs 7 = .pointer (some ⟨b2, o2 + k * 4, none⟩) := hn 7 (by decide)
              rw [g25] at e25
              clear g25
              clear hn ho hu
              go_simp
              exact hK _ _ (keeps_refl _) hI rfl
            · intro _ a w1 vs hI ho hn hu K hK
              obtain ⟨e26, g26⟩ : a.tmps[26]? = some (vs 8) ∧ vs 8 = .pointer (some ⟨b2, o2 + k * 4, none⟩) := hn 8 (by decide)
              rw [g26] at e26
              clear g26
              clear hn ho hu
              have c0 := keeps_cell hI C0.out
              go_simp
              exact hK _ _ (keeps_refl _) hI rfl
            · intro _ a w1 vs hI ho hn hu K hK
              obtain ⟨e22, g22⟩ : a.tmps[22]? = some (vs 4) ∧ vs 4 = .string xn := hn 4 (by decide)
              rw [g22] at e22
              clear g22
              obtain ⟨e27, g27⟩ : a.tmps[27]? = some (vs 9) ∧ vs 9 = .string yn := hn 9 (by decide)
              rw [g27] at e27
              clear g27
              clear hn ho hu
              have i0 := D0.out.1
              have i1 := D0.out.2.1
              have i2 := D0.out.2.2.1
              have i3 := D0.out.2.2.2
              go_simp
              exact hK _ _ (keeps_refl _) hI rfl
            · intro _ a w1 vs hI ho hn hu K hK
              obtain ⟨e28, g28⟩ : a.tmps[28]? = some (vs 10) ∧ vs 10 = .bool false := hn 10 (by decide)
              rw [g28] at e28
              clear g28
              clear hn ho hu
              go_simp
              exact hK _ _ (keeps_refl _) hI rfl
            · intro _ a w1 vs hI ho hn hu K hK
              have e0 : a.tmps[0]? = some (.slice (some ⟨b1, o1, none⟩) l.length q) := ho 0 rfl
              clear hn ho hu
              go_simp
              exact hK _ _ (keeps_refl _) hI rfl
            · intro _ a w1 vs hI ho hn hu K hK
              have e5 : a.tmps[5]? = some (.int .i64 (k : Int)) := ho 5 rfl
              clear hn ho hu
              go_simp
              exact hK _ _ (keeps_refl _) hI rfl
            · intro _ a w1 vs hI ho hn hu K hK
              obtain ⟨e30, g30⟩ : a.tmps[30]? = some (vs 12) ∧ vs 12 = .slice (some ⟨b1, o1, none⟩) l.length q := hn 12 (by decide)
              rw [g30] at e30
              clear g30
              obtain ⟨e31, g31⟩ : a.tmps[31]? = some (vs 13) ∧ vs 13 = .int .i64 (k : Int) := hn 13 (by decide)
              rw [g31] at e31
              clear g31
              clear hn ho hu
              have i1 := HA.out.1
              have i2 := HA.out.2.1
              have i3 := HA.out.2.2
              go_simp
              exact hK _ _ (keeps_refl _) hI rfl
            · intro _ a w1 vs hI ho hn hu K hK
              obtain ⟨e32, g32⟩ : a.tmps[32]? = some (vs 14) ∧ vs 14 = .pointer (some ⟨b1, o1 + k * 4, none⟩) := hn 14 (by decide)
              rw [g32] at e32
              clear g32
              clear hn ho hu
              go_simp
              exact hK _ _ (keeps_refl _) hI rfl
            · intro _ a w1 vs hI ho hn hu K hK
              obtain ⟨e33, g33⟩ : a.tmps[33]? = some (vs 15) ∧ vs 15 = .pointer (some ⟨b1, o1 + k * 4 + 1, none⟩) := hn 15 (by decide)
              rw [g33] at e33
              clear g33
              clear hn ho hu
              have c0 := keeps_cell hI A1.out
              go_simp
              exact hK _ _ (keeps_refl _) hI rfl
            · intro _ a w1 vs hI ho hn hu K hK
              have e1 : a.tmps[1]? = some (.slice (some ⟨b2, o2, none⟩) m.length q2) := ho 1 rfl
              clear hn ho hu
              go_simp
              exact hK _ _ (keeps_refl _) hI rfl
            · intro _ a w1 vs hI ho hn hu K hK
              have e5 : a.tmps[5]? = some (.int .i64 (k : Int)) := ho 5 rfl
              clear hn ho hu
              go_simp
              exact hK _ _ (keeps_refl _) hI rfl
            · intro _ a w1 vs hI ho hn hu K hK
              obtain ⟨e35, g35⟩ : a.tmps[35]? = some (vs 17) ∧ vs 17 = .slice (some ⟨b2, o2, none⟩) m.length q2 := hn 17 (by decide)
              rw [g35] at e35
              clear g35
              obtain ⟨e36, g36⟩ : a.tmps[36]? = some (vs 18) ∧ vs 18 = .int .i64 (k : Int) := hn 18 (by decide)
              rw [g36] at e36
              clear g36
              clear hn ho hu
              have i1 := HA.out.1
              have i2 := HA.out.2.1
              have i3 := HA.out.2.2
              go_simp
              exact hK _ _ (keeps_refl _) hI rfl
            · intro _ a w1 vs hI ho hn hu K hK
              obtain ⟨e37, g37⟩ : a.tmps[37]? = some (vs 19) ∧ vs 19 = .pointer (some ⟨b2, o2 + k * 4, none⟩) := hn 19 (by decide)
              rw [g37] at e37
              clear g37
              clear hn ho hu
              go_simp
              exact hK _ _ (keeps_refl _) hI rfl
            · intro _ a w1 vs hI ho hn hu K hK
              obtain ⟨e38, g38⟩ : a.tmps[38]? = some (vs 20) ∧ vs 20 = .pointer (some ⟨b2, o2 + k * 4 + 1, none⟩) := hn 20 (by decide)
              rw [g38] at e38
              clear g38
              clear hn ho hu
              have c0 := keeps_cell hI C1.out
              go_simp
              exact hK _ _ (keeps_refl _) hI rfl
            · intro _ a w1 vs hI ho hn hu K hK
              obtain ⟨e34, g34⟩ : a.tmps[34]? = some (vs 16) ∧ vs 16 = .bool xd := hn 16 (by decide)
              rw [g34] at e34
              clear g34
              obtain ⟨e39, g39⟩ : a.tmps[39]? = some (vs 21) ∧ vs 21 = .bool yd := hn 21 (by decide)
              rw [g39] at e39
              clear g39
              clear hn ho hu
              have i0 := D1.out.1
              have i1 := D1.out.2.1
              have i2 := D1.out.2.2.1
              have i3 := D1.out.2.2.2
              go_simp
              exact hK _ _ (keeps_refl _) hI rfl
            · intro _ a w1 vs hI ho hn hu K hK
              obtain ⟨e29, g29⟩ : a.tmps[29]? = some (vs 11) ∧ vs 11 = .bool false := hn 11 (by decide)
              rw [g29] at e29
              clear g29
              obtain ⟨e40, g40⟩ : a.tmps[40]? = some (vs 22) ∧ vs 22 = .bool false := hn 22 (by decide)
              rw [g40] at e40
              clear g40
              clear hn ho hu
              go_simp
              exact hK _ _ (keeps_refl _) hI rfl
            · intro _ a w1 vs hI ho hn hu K hK
              obtain ⟨e41, g41⟩ : a.tmps[41]? = some (vs 23) ∧ vs 23 = .bool false := hn 23 (by decide)
              rw [g41] at e41
              clear g41
              clear hn ho hu
              go_simp
              exact hK _ _ (keeps_refl _) hI rfl
            · intro _ a w1 vs hI ho hn hu K hK
              have e0 : a.tmps[0]? = some (.slice (some ⟨b1, o1, none⟩) l.length q) := ho 0 rfl
              clear hn ho hu
              go_simp
              exact hK _ _ (keeps_refl _) hI rfl
            · intro _ a w1 vs hI ho hn hu K hK
              have e5 : a.tmps[5]? = some (.int .i64 (k : Int)) := ho 5 rfl
              clear hn ho hu
              go_simp
              exact hK _ _ (keeps_refl _) hI rfl
            · intro _ a w1 vs hI ho hn hu K hK
              obtain ⟨e43, g43⟩ : a.tmps[43]? = some (vs 25) ∧ vs 25 = .slice (some ⟨b1, o1, none⟩) l.length q := hn 25 (by decide)
              rw [g43] at e43
              clear g43
              obtain ⟨e44, g44⟩ : a.tmps[44]? = some (vs 26) ∧ vs 26 = .int .i64 (k : Int) := hn 26 (by decide)
              rw [g44] at e44
              clear g44
              clear hn ho hu
              have i1 := HA.out.1
              have i2 := HA.out.2.1
              have i3 := HA.out.2.2
              go_simp
              exact hK _ _ (keeps_refl _) hI rfl
            · intro _ a w1 vs hI ho hn hu K hK
              obtain ⟨e45, g45⟩ : a.tmps[45]? = some (vs 27) ∧ vs 27 = .pointer (some ⟨b1, o1 + k * 4, none⟩) := hn 27 (by decide)
              rw [g45] at e45
              clear g45
              clear hn ho hu
              go_simp
              exact hK _ _ (keeps_refl _) hI rfl
            · intro _ a w1 vs hI ho hn hu K hK
              obtain ⟨e46, g46⟩ : a.tmps[46]? = some (vs 28) ∧ vs 28 = .pointer (some ⟨b1, o1 + k * 4 + 2, none⟩) := hn 28 (by decide)
              rw [g46] at e46
              clear g46
              clear hn ho hu
              have c0 := keeps_cell hI A2.out
              go_simp
              exact hK _ _ (keeps_refl _) hI rfl
            · intro _ a w1 vs hI ho hn hu K hK
              have e1 : a.tmps[1]? = some (.slice (some ⟨b2, o2, none⟩) m.length q2) := ho 1 rfl
              clear hn ho hu
              go_simp
              exact hK _ _ (keeps_refl _) hI rfl
            · intro _ a w1 vs hI ho hn hu K hK
              have e5 : a.tmps[5]? = some (.int .i64 (k : Int)) := ho 5 rfl
              clear hn ho hu
              go_simp
              exact hK _ _ (keeps_refl _) hI rfl
            · intro _ a w1 vs hI ho hn hu K hK
              obtain ⟨e48, g48⟩ : a.tmps[48]? = some (vs 30) ∧ vs 30 = .slice (some ⟨b2, o2, none⟩) m.length q2 := hn 30 (by decide)
              rw [g48] at e48
              clear g48
              obtain ⟨e49, g49⟩ : a.tmps[49]? = some (vs 31) ∧ vs 31 = .int .i64 (k : Int) := hn 31 (by decide)
              rw [g49] at e49
              clear g49
              clear hn ho hu
              have i1 := HA.out.1
              have i2 := HA.out.2.1
              have i3 := HA.out.2.2
              go_simp
              exact hK _ _ (keeps_refl _) hI rfl
            · intro _ a w1 vs hI ho hn hu K hK
              obtain ⟨e50, g50⟩ : a.tmps[50]? = some (vs 32) ∧ vs 32 = .pointer (some ⟨b2, o2 + k * 4, none⟩) := hn 32 (by decide)
              rw [g50] at e50
              clear g50
              clear hn ho hu
              go_simp
              exact hK _ _ (keeps_refl _) hI rfl
            · intro _ a w1 vs hI ho hn hu K hK
              obtain ⟨e51, g51⟩ : a.tmps[51]? = some (vs 33) ∧ vs 33 = .pointer (some ⟨b2, o2 + k * 4 + 2, none⟩) := hn 33 (by decide)
              rw [g51] at e51
              clear g51
              clear hn ho hu
              have c0 := keeps_cell hI C2.out
              go_simp
              exact hK _ _ (keeps_refl _) hI rfl
            · intro _ a w1 vs hI ho hn hu K hK
              obtain ⟨e47, g47⟩ : a.tmps[47]? = some (vs 29) ∧ vs 29 = .int .i64 xz := hn 29 (by decide)
              rw [g47] at e47
              clear g47
              obtain ⟨e52, g52⟩ : a.tmps[52]? = some (vs 34) ∧ vs 34 = .int .i64 yz := hn 34 (by decide)
              rw [g52] at e52
              clear g52
              clear hn ho hu
              have i0 := D2.out.1
              have i1 := D2.out.2.1
              have i2 := D2.out.2.2.1
              have i3 := D2.out.2.2.2
              go_simp
              exact hK _ _ (keeps_refl _) hI rfl
            · intro _ a w1 vs hI ho hn hu K hK
              obtain ⟨e42, g42⟩ : a.tmps[42]? = some (vs 24) ∧ vs 24 = .bool false := hn 24 (by decide)
              rw [g42] at e42
              clear g42
              obtain ⟨e53, g53⟩ : a.tmps[53]? = some (vs 35) ∧ vs 35 = .bool true := hn 35 (by decide)
              rw [g53] at e53
              clear g53
              clear hn ho hu
              go_simp
              exact hK _ _ (keeps_refl _) hI rfl
            · intro _ a w1 vs hI ho hn hu K hK
              obtain ⟨e54, g54⟩ : a.tmps[54]? = some (vs 36) ∧ vs 36 = .bool true := hn 36 (by decide)
              rw [g54] at e54
              clear g54
              clear hn ho hu
              go_simp
              exact hK _ _ (keeps_refl _) hI rfl
            · intro hs; cases hs
            · intro hs; cases hs
            · intro hs; cases hs
            · intro hs; cases hs
            · intro hs; cases hs
            · intro hs; cases hs
            · intro hs; cases hs
            · intro hs; cases hs
            · intro hs; cases hs
            · intro hs; cases hs
            · intro hs; cases hs
            · intro hs; cases hs
            · intro hs; cases hs
            · intro _ a w1 vs hI ho hn hu K hK
              obtain ⟨e55, g55⟩ : a.tmps[55]? = some (vs 37) ∧ vs 37 = .bool true := hn 37 (by decide)
              rw [g55] at e55
              clear g55
              obtain ⟨e68, g68⟩ : a.tmps[68]? = some (vs 50) ∧ vs 50 = undef := hn 50 (by decide)
              rw [g68] at e68
              clear g68
              clear hn ho hu
              go_simp
              exact hK _ _ (keeps_refl _) hI rfl
          · intro vs wE hI hG
            have eL51 : vs 51 = .bool true := hG 51 (by decide)
            have HKE := Lib.hid hI
            clear hG hI
            simp only [setAll, Nat.zero_add, Nat.reduceAdd, List.setIfInBounds_toArray, List.set_cons_zero, List.set_cons_succ, eL51]
            clear eL51
            generalize vs 0 = y0 at *
            generalize vs 1 = y1 at *
            generalize vs 2 = y2 at *
            generalize vs 3 = y3 at *
            generalize vs 4 = y4 at *
            generalize vs 5 = y5 at *
            generalize vs 6 = y6 at *
            generalize vs 7 = y7 at *
            generalize vs 8 = y8 at *
            generalize vs 9 = y9 at *
            generalize vs 10 = y10 at *
            generalize vs 11 = y11 at *
            generalize vs 12 = y12 at *
            generalize vs 13 = y13 at *
            generalize vs 14 = y14 at *
            generalize vs 15 = y15 at *
            generalize vs 16 = y16 at *
            generalize vs 17 = y17 at *
            generalize vs 18 = y18 at *
            generalize vs 19 = y19 at *
            generalize vs 20 = y20 at *
            generalize vs 21 = y21 at *
            generalize vs 22 = y22 at *
            generalize vs 23 = y23 at *
            generalize vs 24 = y24 at *
            generalize vs 25 = y25 at *
            generalize vs 26 = y26 at *
            generalize vs 27 = y27 at *
            generalize vs 28 = y28 at *
            generalize vs 29 = y29 at *
            generalize vs 30 = y30 at *
            generalize vs 31 = y31 at *
            generalize vs 32 = y32 at *
            generalize vs 33 = y33 at *
            generalize vs 34 = y34 at *
            generalize vs 35 = y35 at *
            generalize vs 36 = y36 at *
            generalize vs 37 = y37 at *
            generalize vs 38 = y38 at *
            generalize vs 39 = y39 at *
            generalize vs 40 = y40 at *
            generalize vs 41 = y41 at *
            generalize vs 42 = y42 at *
            generalize vs 43 = y43 at *
            generalize vs 44 = y44 at *
            generalize vs 45 = y45 at *
            generalize vs 46 = y46 at *
            generalize vs 47 = y47 at *
            generalize vs 48 = y48 at *
            generalize vs 49 = y49 at *
            generalize vs 50 = y50 at *
            have HKW := Lib.hid (hK.out.trans HKE.out)
            go_wp2_with fail
            go_ret
            exact ⟨by rw [HF2.out]; rfl, HKW.out⟩
        have h2 := Decidable.of_not_not h2
        have D2 : Hid ((xz == yz) = true ∧ (!decide (xz = yz)) = false ∧ (xz != yz) = false ∧ decide (xz = yz) = true) := ⟨beq_iff_eq.2 h2, by rw [decide_eq_true h2]; rfl, by unfold bne; rw [beq_iff_eq.2 h2]; rfl, decide_eq_true h2⟩
        have G2 := Lib.hid h2
        clear h2
        by_cases h3 : xc.length ≠ yc.length
        · have D3 : Hid (((xc.length : Int) == (yc.length : Int)) = false ∧ (!decide ((xc.length : Int) = (yc.length : Int))) = true ∧ ((xc.length : Int) != (yc.length : Int)) = true ∧ decide ((xc.length : Int) = (yc.length : Int)) = false) := ⟨beq_false_of_ne (show ¬ (xc.length : Int) = (yc.length : Int) by omega), by rw [decide_eq_false (show ¬ (xc.length : Int) = (yc.length : Int) by omega)]; rfl, by unfold bne; rw [beq_false_of_ne (show ¬ (xc.length : Int) = (yc.length : Int) by omega)]; rfl, decide_eq_false (show ¬ (xc.length : Int) = (yc.length : Int) by omega)⟩
          have HF2 := Lib.hid (HF.out fun e => h3 (congrArg (fun x => x.c.length) e))
          clear h3
          go_wp2_with fail
          refine wp_region_stage [18, 19, 20, 21, 22, 23, 24, 25, 26, 27, 28, 29, 30, 31, 32, 33, 34, 35, 36, 37, 38, 39, 40, 41, 42, 43, 44, 45, 46, 47, 48, 49, 50, 51, 52, 53, 54, 55, 56, 57, 58, 59, 60, 61, 62, 63, 64, 65, 66, 67, 68, 69] [[], [], [0, 1], [2], [3], [], [], [5, 6], [7], [8], [4, 9], [10], [11], [11], [11, 12, 13], [11, 14], [11, 15], [11], [11], [11, 17, 18], [11, 19], [11, 20], [11, 16, 21], [11, 22], [23], [24], [24], [24, 25, 26], [24, 27], [24, 28], [24], [24], [24, 30, 31], [24, 32], [24, 33], [24, 29, 34], [24, 35], [36], [37], [37], [37, 38, 39], [37, 40], [37, 41], [37, 42], [37], [37], [37, 44, 45], [37, 46], [37, 47], [37, 48], [37, 43, 49], [37, 50]] [] [0, 0, 0, 0, 0, 0, 0, 0, 0, 0, 0, 0, 0, 0, 0, 0, 0, 0, 0, 0, 0, 0, 0, 0, 0, 0, 0, 0, 0, 0, 0, 0, 0, 0, 0, 0, 0, 0, 0, 0, 0, 0, 0, 0, 0, 0, 0, 0, 0, 0, 0, 0] [] (fun i v _ => nsm3 b1 o1 l.length q b2 o2 m.length q2 k xn yn xd yd xz yz pc pe xc.length yc.length qc qe i v) (fun w w' => Keeps w w') (fun _ _ w' => Keeps wr w') (by kernel_rfl) (by kernel_rfl) (by kernel_rfl) (by kernel_rfl) (by kernel_rfl) (by kernel_rfl) (by kernel_rfl) ?_ ?_ ?_ ?_ ?_ ?_ ?_
          · exact fun i v w w' c h => h
          · exact fun w => keeps_refl w
          · exact fun i s vs w _ h => h
          · refine ⟨?_, ?_, ?_, ?_, ?_, ?_, ?_, ?_, ?_, ?_, ?_, ?_, ?_, ?_, ?_, ?_, ?_, ?_, ?_, ?_, ?_, ?_, ?_, ?_, ?_, ?_, ?_, ?_, ?_, ?_, ?_, ?_, ?_, ?_, ?_, ?_, ?_, ?_, ?_, ?_, ?_, ?_, ?_, ?_, ?_, ?_, ?_, ?_, ?_, ?_, ?_, ?_, trivial⟩
            · exact fun g b h => by (cases h)
            · exact fun g b h => by (cases h)
            · exact fun g b h => by (cases h)
            · exact fun g b h => by (cases h)
            · exact fun g b h => by (cases h)
            · exact fun g b h => by (cases h)
            · exact fun g b h => by (cases h)
            · exact fun g b h => by (cases h)
            · exact fun g b h => by (cases h)
            · exact fun g b h => by (cases h)
            · exact fun g b h => by (cases h)
            · exact fun g b h => by (cases h)
            · exact fun g b h => by (cases h; exact ⟨by decide, fun v w h => h⟩)
            · exact fun g b h => by (cases h; exact ⟨by decide, fun v w h => h⟩)
            · exact fun g b h => by (cases h; exact ⟨by decide, fun v w h => h⟩)
            · exact fun g b h => by (cases h; exact ⟨by decide, fun v w h => h⟩)
            · exact fun g b h => by (cases h; exact ⟨by decide, fun v w h => h⟩)
            · exact fun g b h => by (cases h; exact ⟨by decide, fun v w h => h⟩)
            · exact fun g b h => by (cases h; exact ⟨by decide, fun v w h => h⟩)
            · exact fun g b h => by (cases h; exact ⟨by decide, fun v w h => h⟩)
            · exact fun g b h => by (cases h; exact ⟨by decide, fun v w h => h⟩)
            · exact fun g b h => by (cases h; exact ⟨by decide, fun v w h => h⟩)
            · exact fun g b h => by (cases h; exact ⟨by decide, fun v w h => h⟩)
            · exact fun g b h => by (cases h)
            · exact fun g b h => by (cases h)
            · exact fun g b h => by (cases h; exact ⟨by decide, fun v w h => h⟩)
            · exact fun g b h => by (cases h; exact ⟨by decide, fun v w h => h⟩)
            · exact fun g b h => by (cases h; exact ⟨by decide, fun v w h => h⟩)
            · exact fun g b h => by (cases h; exact ⟨by decide, fun v w h => h⟩)
            · exact fun g b h => by (cases h; exact ⟨by decide, fun v w h => h⟩)
            · exact fun g b h => by (cases h; exact ⟨by decide, fun v w h => h⟩)
            · exact fun g b h => by (cases h; exact ⟨by decide, fun v w h => h⟩)
            · exact fun g b h => by (cases h; exact ⟨by decide, fun v w h => h⟩)
            · exact fun g b h => by (cases h; exact ⟨by decide, fun v w h => h⟩)
            · exact fun g b h => by (cases h; exact ⟨by decide, fun v w h => h⟩)
            · exact fun g b h => by (cases h; exact ⟨by decide, fun v w h => h⟩)
            · exact fun g b h => by (cases h)
            · exact fun g b h => by (cases h)
            · exact fun g b h => by (cases h; exact ⟨by decide, fun v w h => h⟩)
            · exact fun g b h => by (cases h; exact ⟨by decide, fun v w h => h⟩)
            · exact fun g b h => by (cases h; exact ⟨by decide, fun v w h => h⟩)
            · exact fun g b h => by (cases h; exact ⟨by decide, fun v w h => h⟩)
            · exact fun g b h => by (cases h; exact ⟨by decide, fun v w h => h⟩)
            · exact fun g b h => by (cases h; exact ⟨by decide, fun v w h => h⟩)
            · exact fun g b h => by (cases h; exact ⟨by decide, fun v w h => h⟩)
            · exact fun g b h => by (cases h; exact ⟨by decide, fun v w h => h⟩)
            · exact fun g b h => by (cases h; exact ⟨by decide, fun v w h => h⟩)
            · exact fun g b h => by (cases h; exact ⟨by decide, fun v w h => h⟩)
            · exact fun g b h => by (cases h; exact ⟨by decide, fun v w h => h⟩)
            · exact fun g b h => by (cases h; exact ⟨by decide, fun v w h => h⟩)
            · exact fun g b h => by (cases h; exact ⟨by decide, fun v w h => h⟩)
            · exact fun g b h => by (cases h)
          · exact fun _ _ => keeps_refl wr
          · refine ⟨?_, ?_, ?_, ?_, ?_, ?_, ?_, ?_, ?_, ?_, ?_, ?_, ?_, ?_, ?_, ?_, ?_, ?_, ?_, ?_, ?_, ?_, ?_, ?_, ?_, ?_, ?_, ?_, ?_, ?_, ?_, ?_, ?_, ?_, ?_, ?_, ?_, ?_, ?_, ?_, ?_, ?_, ?_, ?_, ?_, ?_, ?_, ?_, ?_, ?_, ?_, ?_, trivial⟩
            · intro _ a w1 vs hI ho hn hu K hK
              have e0 : a.tmps[0]? = some (.slice (some ⟨b1, o1, none⟩) l.length q) := ho 0 rfl
              clear hn ho hu
              go_simp
              exact hK _ _ (keeps_refl _) hI rfl
            · intro _ a w1 vs hI ho hn hu K hK
              have e5 : a.tmps[5]? = some (.int .i64 (k : Int)) := ho 5 rfl
              clear hn ho hu
              go_simp
              exact hK _ _ (keeps_refl _) hI rfl
            · intro _ a w1 vs hI ho hn hu K hK
              obtain ⟨e18, g18⟩ : a.tmps[18]? = some (vs 0) ∧ vs 0 = .slice (some ⟨b1, o1, none⟩) l.length q := hn 0 (by decide)
              rw [g18] at e18
              clear g18
              obtain ⟨e19, g19⟩ : a.tmps[19]? = some (vs 1) ∧ vs 1 = .int .i64 (k : Int) := hn 1 (by decide)
              rw [g19] at e19
              clear g19
              clear hn ho hu
              have i1 := HA.out.1
              have i2 := HA.out.2.1
              have i3 := HA.out.2.2
              go_simp
              exact hK _ _ (keeps_refl _) hI rfl
            · intro _ a w1 vs hI ho hn hu K hK
              obtain ⟨e20, g20⟩ : a.tmps[20]? = some (vs 2) ∧ vs 2 = .pointer (some ⟨b1, o1 + k * 4, none⟩) := hn 2 (by decide)
              rw [g20] at e20
              clear g20
              clear hn ho hu
              go_simp
              exact hK _ _ (keeps_refl _) hI rfl
            · intro _ a w1 vs hI ho hn hu K hK
              obtain ⟨e21, g21⟩ : a.tmps[21]? = some (vs 3) ∧ vs 3 = .pointer (some ⟨b1, o1 + k * 4, none⟩) := hn 3 (by decide)
              rw [g21] at e21
              clear g21
              clear hn ho hu
              have c0 := keeps_cell hI A0.out
              go_simp
              exact hK _ _ (keeps_refl _) hI rfl
            · intro _ a w1 vs hI ho hn hu K hK
              have e1 : a.tmps[1]? = some (.slice (some ⟨b2, o2, none⟩) m.length q2) := ho 1 rfl
              clear hn ho hu
              go_simp
              exact hK _ _ (keeps_refl _) hI rfl
            · intro _ a w1 vs hI ho hn hu K hK
              have e5 : a.tmps[5]? = some (.int .i64 (k : Int)) := ho 5 rfl
              clear hn ho hu
              go_simp
              exact hK _ _ (keeps_refl _) hI rfl
            · intro _ a w1 vs hI ho hn hu K hK
              obtain ⟨e23, g23⟩ : a.tmps[23]? = some (vs 5) ∧ vs 5 = .slice (some ⟨b2, o2, none⟩) m.length q2 := hn 5 (by decide)
              rw [g23] at e23
              clear g23
              obtain ⟨e24, g24⟩ : a.tmps[24]? = some (vs 6) ∧ vs 6 = .int .i64 (k : Int) := hn 6 (by decide)
              rw [g24] at e24
              clear g24
              clear hn ho hu
              have i1 := HA.out.1
              have i2 := HA.out.2.1
              have i3 := HA.out.2.2
              go_simp
              exact hK _ _ (keeps_refl _) hI rfl
            · intro _ a w1 vs hI ho hn hu K hK
              obtain ⟨e25, g25⟩ : a.tmps[25]? = some (vs 7) ∧ vs 7 = .pointer (some ⟨b2, o2 + k * 4, none⟩) := hn 7 (by decide)
              rw [g25] at e25
              clear g25
              clear hn ho hu
              go_simp
              exact hK _ _ (keeps_refl _) hI rfl
            · intro _ a w1 vs hI ho hn hu K hK
              obtain ⟨e26, g26⟩ : a.tmps[26]? = some (vs 8) ∧ vs 8 = .pointer (some ⟨b2, o2 + k * 4, none⟩) := hn 8 (by decide)
              rw [g26] at e26
              clear g26
              clear hn ho hu
              have c0 := keeps_cell hI C0.out
              go_simp
              exact hK _ _ (keeps_refl _) hI rfl
            · intro _ a w1 vs hI ho hn hu K hK
              obtain ⟨e22, g22⟩ : a.tmps[22]? = some (vs 4) ∧ vs 4 = .string xn := hn 4 (by decide)
              rw [g22] at e22
              clear g22
              obtain ⟨e27, g27⟩ : a.tmps[27]? = some (vs 9) ∧ vs 9 = .string yn := hn 9 (by decide)
              rw [g27] at e27
              clear g27
              clear hn ho hu
              have i0 := D0.out.1
              have i1 := D0.out.2.1
              have i2 := D0.out.2.2.1
              have i3 := D0.out.2.2.2
              go_simp
              exact hK _ _ (keeps_refl _) hI rfl
            · intro _ a w1 vs hI ho hn hu K hK
              obtain ⟨e28, g28⟩ : a.tmps[28]? = some (vs 10) ∧ vs 10 = .bool false := hn 10 (by decide)
              rw [g28] at e28
              clear g28
              clear hn ho hu
              go_simp
              exact hK _ _ (keeps_refl _) hI rfl
            · intro _ a w1 vs hI ho hn hu K hK
              have e0 : a.tmps[0]? = some (.slice (some ⟨b1, o1, none⟩) l.length q) := ho 0 rfl
              clear hn ho hu
              go_simp
              exact hK _ _ (keeps_refl _) hI rfl
            · intro _ a w1 vs hI ho hn hu K hK
              have e5 : a.tmps[5]? = some (.int .i64 (k : Int)) := ho 5 rfl
              clear hn ho hu
              go_simp
              exact hK _ _ (keeps_refl _) hI rfl
            · intro _ a w1 vs hI ho hn hu K hK
              obtain ⟨e30, g30⟩ : a.tmps[30]? = some (vs 12) ∧ vs 12 = .slice (some ⟨b1, o1, none⟩) l.length q := hn 12 (by decide)
              rw [g30] at e30
              clear g30
              obtain ⟨e31, g31⟩ : a.tmps[31]? = some (vs 13) ∧ vs 13 = .int .i64 (k : Int) := hn 13 (by decide)
              rw [g31] at e31
              clear g31
              clear hn ho hu
              have i1 := HA.out.1
              have i2 := HA.out.2.1
              have i3 := HA.out.2.2
              go_simp
              exact hK _ _ (keeps_refl _) hI rfl
            · intro _ a w1 vs hI ho hn hu K hK
              obtain ⟨e32, g32⟩ : a.tmps[32]? = some (vs 14) ∧ vs 14 = .pointer (some ⟨b1, o1 + k * 4, none⟩) := hn 14 (by decide)
              rw [g32] at e32
              clear g32
              clear hn ho hu
              go_simp
              exact hK _ _ (keeps_refl _) hI rfl
            · intro _ a w1 vs hI ho hn hu K hK
              obtain ⟨e33, g33⟩ : a.tmps[33]? = some (vs 15) ∧ vs 15 = .pointer (some ⟨b1, o1 + k * 4 + 1, none⟩) := hn 15 (by decide)
              rw [g33] at e33
              clear g33
              clear hn ho hu
              have c0 := keeps_cell hI A1.out
              go_simp
              exact hK _ _ (keeps_refl _) hI rfl
            · intro _ a w1 vs hI ho hn hu K hK
              have e1 : a.tmps[1]? = some (.slice (some ⟨b2, o2, none⟩) m.length q2) := ho 1 rfl
              clear hn ho hu
              go_simp
              exact hK _ _ (keeps_refl _) hI rfl
            · intro _ a w1 vs hI ho hn hu K hK
              have e5 : a.tmps[5]? = some (.int .i64 (k : Int)) := ho 5 rfl
              clear hn ho hu
              go_simp
              exact hK _ _ (keeps_refl _) hI rfl
            · intro _ a w1 vs hI ho hn hu K hK
              obtain ⟨e35, g35⟩ : a.tmps[35]? = some (vs 17) ∧ vs 17 = .slice (some ⟨b2, o2, none⟩) m.length q2 := hn 17 (by decide)
              rw [g35] at e35
              clear g35
              obtain ⟨e36, g36⟩ : a.tmps[36]? = some (vs 18) ∧ vs 18 = .int .i64 (k : Int) := hn 18 (by decide)
              rw [g36] at e36
              clear g36
              clear hn ho hu
              have i1 := HA.out.1
              have i2 := HA.out.2.1
              have i3 := HA.out.2.2
              go_simp
              exact hK _ _ (keeps_refl _) hI rfl
            · intro _ a w1 vs hI ho hn hu K hK
              obtain ⟨e37, g37⟩ : a.tmps[37]? = some (vs 19) ∧ vs 19 = .pointer (some ⟨b2, o2 + k * 4, none⟩) := hn 19 (by decide)
              rw [g37] at e37
              clear g37
              clear hn ho hu
              go_simp
              exact hK _ _ (keeps_refl _) hI rfl
            · intro _ a w1 vs hI ho hn hu K hK
              obtain ⟨e38, g38⟩ : a.tmps[38]? = some (vs 20) ∧ vs 20 = .pointer (some ⟨b2, o2 + k * 4 + 1, none⟩) := hn 20 (by decide)
              rw [g38] at e38
              clear g38
              clear hn ho hu
              have c0 := keeps_cell hI C1.out
              go_simp
              exact hK _ _ (keeps_refl _) hI rfl
            · intro _ a w1 vs hI ho hn hu K hK
              obtain ⟨e34, g34⟩ : a.tmps[34]? = some (vs 16) ∧ vs 16 = .bool xd := hn 16 (by decide)
              rw [g34] at e34
              clear g34
              obtain ⟨e39, g39⟩ : a.tmps[39]? = some (vs 21) ∧ vs 21 = .bool yd := hn 21 (by decide)
              rw [g39] at e39
              clear g39
              clear hn ho hu
              have i0 := D1.out.1
              have i1 := D1.out.2.1
              have i2 := D1.out.2.2.1
              have i3 := D1.out.2.2.2
              go_simp
              exact hK _ _ (keeps_refl _) hI rfl
            · intro _ a w1 vs hI ho hn hu K hK
              obtain ⟨e29, g29⟩ : a.tmps[29]? = some (vs 11) ∧ vs 11 = .bool false := hn 11 (by decide)
              rw [g29] at e29
              clear g29
              obtain ⟨e40, g40⟩ : a.tmps[40]? = some (vs 22) ∧ vs 22 = .bool false := hn 22 (by decide)
              rw [g40] at e40
              clear g40
              clear hn ho hu
              go_simp
              exact hK _ _ (keeps_refl _) hI rfl
            · intro _ a w1 vs hI ho hn hu K hK
              obtain ⟨e41, g41⟩ : a.tmps[41]? = some (vs 23) ∧ vs 23 = .bool false := hn 23 (by decide)
              rw [g41] at e41
              clear g41
              clear hn ho hu
              go_simp
              exact hK _ _ (keeps_refl _) hI rfl
            · intro _ a w1 vs hI ho hn hu K hK
              have e0 : a.tmps[0]? = some (.slice (some ⟨b1, o1, none⟩) l.length q) := ho 0 rfl
              clear hn ho hu
              go_simp
              exact hK _ _ (keeps_refl _) hI rfl
            · intro _ a w1 vs hI ho hn hu K hK
              have e5 : a.tmps[5]? = some (.int .i64 (k : Int)) := ho 5 rfl
              clear hn ho hu
              go_simp
              exact hK _ _ (keeps_refl _) hI rfl
            · intro _ a w1 vs hI ho hn hu K hK
              obtain ⟨e43, g43⟩ : a.tmps[43]? = some (vs 25) ∧ vs 25 = .slice (some ⟨b1, o1, none⟩) l.length q := hn 25 (by decide)
              rw [g43] at e43
              clear g43
              obtain ⟨e44, g44⟩ : a.tmps[44]? = some (vs 26) ∧ vs 26 = .int .i64 (k : Int) := hn 26 (by decide)
              rw [g44] at e44
              clear g44
              clear hn ho hu
              have i1 := HA.out.1
              have i2 := HA.out.2.1
              have i3 := HA.out.2.2
              go_simp
              exact hK _ _ (keeps_refl _) hI rfl
            · intro _ a w1 vs hI ho hn hu K hK
              obtain ⟨e45, g45⟩ : a.tmps[45]? = some (vs 27) ∧ vs 27 = .pointer (some ⟨b1, o1 + k * 4, none⟩) := hn 27 (by decide)
              rw [g45] at e45
              clear g45
              clear hn ho hu
              go_simp
              exact hK _ _ (keeps_refl _) hI rfl
            · intro _ a w1 vs hI ho hn hu K hK
              obtain ⟨e46, g46⟩ : a.tmps[46]? = some (vs 28) ∧ vs 28 = .pointer (some ⟨b1, o1 + k * 4 + 2, none⟩) := hn 28 (by decide)
              rw [g46] at e46
              clear g46
              clear hn ho hu
              have c0 := keeps_cell hI A2.out
              go_simp
              exact hK _ _ (keeps_refl _) hI rfl
            · intro _ a w1 vs hI ho hn hu K hK
              have e1 : a.tmps[1]? = some (.slice (some ⟨b2, o2, none⟩) m.length q2) := ho 1 rfl
              clear hn ho hu
              go_simp
              exact hK _ _ (keeps_refl _) hI rfl
            · intro _ a w1 vs hI ho hn hu K hK
              have e5 : a.tmps[5]? = some (.int .i64 (k : Int)) := ho 5 rfl
              clear hn ho hu
              go_simp
              exact hK _ _ (keeps_refl _) hI rfl
            · intro _ a w1 vs hI ho hn hu K hK
              obtain ⟨e48, g48⟩ : a.tmps[48]? = some (vs 30) ∧ vs 30 = .slice (some ⟨b2, o2, none⟩) m.length q2 := hn 30 (by decide)
              rw [g48] at e48
              clear g48
              obtain ⟨e49, g49⟩ : a.tmps[49]? = some (vs 31) ∧ vs 31 = .int .i64 (k : Int) := hn 31 (by decide)
              rw [g49] at e49
              clear g49
              clear hn ho hu
              have i1 := HA.out.1
              have i2 := HA.out.2.1
              have i3 := HA.out.2.2
              go_simp
              exact hK _ _ (keeps_refl _) hI rfl
            · intro _ a w1 vs hI ho hn hu K hK
              obtain ⟨e50, g50⟩ : a.tmps[50]? = some (vs 32) ∧ vs 32 = .pointer (some ⟨b2, o2 + k * 4, none⟩) := hn 32 (by decide)
              rw [g50] at e50
              clear g50
              clear hn ho hu
              go_simp
              exact hK _ _ (keeps_refl _) hI rfl
            · intro _ a w1 vs hI ho hn hu K hK
              obtain ⟨e51, g51⟩ : a.tmps[51]? = some (vs 33) ∧ vs 33 = .pointer (some ⟨b2, o2 + k * 4 + 2, none⟩) := hn 33 (by decide)
              rw [g51] at e51
              clear g51
              clear hn ho hu
              have c0 := keeps_cell hI C2.out
              go_simp
              exact hK _ _ (keeps_refl _) hI rfl
            · intro _ a w1 vs hI ho hn hu K hK
              obtain ⟨e47, g47⟩ : a.tmps[47]? = some (vs 29) ∧ vs 29 = .int .i64 xz := hn 29 (by decide)
              rw [g47] at e47
              clear g47
              obtain ⟨e52, g52⟩ : a.tmps[52]? = some (vs 34) ∧ vs 34 = .int .i64 yz := hn 34 (by decide)
              rw [g52] at e52
              clear g52
              clear hn ho hu
              have i0 := D2.out.1
              have i1 := D2.out.2.1
              have i2 := D2.out.2.2.1
              have i3 := D2.out.2.2.2
              go_simp
              exact hK _ _ (keeps_refl _) hI rfl
            · intro _ a w1 vs hI ho hn hu K hK
              obtain ⟨e42, g42⟩ : a.tmps[42]? = some (vs 24) ∧ vs 24 = .bool false := hn 24 (by decide)
              rw [g42] at e42
              clear g42
              obtain ⟨e53, g53⟩ : a.tmps[53]? = some (vs 35) ∧ vs 35 = .bool false := hn 35 (by decide)
              rw [g53] at e53
              clear g53
              clear hn ho hu
              go_simp
              exact hK _ _ (keeps_refl _) hI rfl
            · intro _ a w1 vs hI ho hn hu K hK
              obtain ⟨e54, g54⟩ : a.tmps[54]? = some (vs 36) ∧ vs 36 = .bool false := hn 36 (by decide)
              rw [g54] at e54
              clear g54
              clear hn ho hu
              go_simp
              exact hK _ _ (keeps_refl _) hI rfl
            · intro _ a w1 vs hI ho hn hu K hK
              have e0 : a.tmps[0]? = some (.slice (some ⟨b1, o1, none⟩) l.length q) := ho 0 rfl
              clear hn ho hu
              go_simp
              exact hK _ _ (keeps_refl _) hI rfl
            · intro _ a w1 vs hI ho hn hu K hK
              have e5 : a.tmps[5]? = some (.int .i64 (k : Int)) := ho 5 rfl
              clear hn ho hu
              go_simp
              exact hK _ _ (keeps_refl _) hI rfl
            · intro _ a w1 vs hI ho hn hu K hK
              obtain ⟨e56, g56⟩ : a.tmps[56]? = some (vs 38) ∧ vs 38 = .slice (some ⟨b1, o1, none⟩) l.length q := hn 38 (by decide)
              rw [g56] at e56
              clear g56
              obtain ⟨e57, g57⟩ : a.tmps[57]? = some (vs 39) ∧ vs 39 = .int .i64 (k : Int) := hn 39 (by decide)
              rw [g57] at e57
              clear g57
              clear hn ho hu
              have i1 := HA.out.1
              have i2 := HA.out.2.1
              have i3 := HA.out.2.2
              go_simp
              exact hK _ _ (keeps_refl _) hI rfl
            · intro _ a w1 vs hI ho hn hu K hK
              obtain ⟨e58, g58⟩ : a.tmps[58]? = some (vs 40) ∧ vs 40 = .pointer (some ⟨b1, o1 + k * 4, none⟩) := hn 40 (by decide)
              rw [g58] at e58
              clear g58
              clear hn ho hu
              go_simp
              exact hK _ _ (keeps_refl _) hI rfl
            · intro _ a w1 vs hI ho hn hu K hK
              obtain ⟨e59, g59⟩ : a.tmps[59]? = some (vs 41) ∧ vs 41 = .pointer (some ⟨b1, o1 + k * 4 + 3, none⟩) := hn 41 (by decide)
              rw [g59] at e59
              clear g59
              clear hn ho hu
              have c0 := keeps_cell hI A3.out
              go_simp
              exact hK _ _ (keeps_refl _) hI rfl
            · intro _ a w1 vs hI ho hn hu K hK
              obtain ⟨e60, g60⟩ : a.tmps[60]? = some (vs 42) ∧ vs 42 = .slice pc xc.length qc := hn 42 (by decide)
              rw [g60] at e60
              clear g60
              clear hn ho hu
              go_simp
              exact hK _ _ (keeps_refl _) hI rfl
            · intro _ a w1 vs hI ho hn hu K hK
              have e1 : a.tmps[1]? = some (.slice (some ⟨b2, o2, none⟩) m.length q2) := ho 1 rfl
              clear hn ho hu
              go_simp
              exact hK _ _ (keeps_refl _) hI rfl
            · intro _ a w1 vs hI ho hn hu K hK
              have e5 : a.tmps[5]? = some (.int .i64 (k : Int)) := ho 5 rfl
              clear hn ho hu
              go_simp
              exact hK _ _ (keeps_refl _) hI rfl
            · intro _ a w1 vs hI ho hn hu K hK
              obtain ⟨e62, g62⟩ : a.tmps[62]? = some (vs 44) ∧ vs 44 = .slice (some ⟨b2, o2, none⟩) m.length q2 := hn 44 (by decide)
              rw [g62] at e62
              clear g62
              obtain ⟨e63, g63⟩ : a.tmps[63]? = some (vs 45) ∧ vs 45 = .int .i64 (k : Int) := hn 45 (by decide)
              rw [g63] at e63
              clear g63
              clear hn ho hu
              have i1 := HA.out.1
              have i2 := HA.out.2.1
              have i3 := HA.out.2.2
              go_simp
              exact hK _ _ (keeps_refl _) hI rfl
            · intro _ a w1 vs hI ho hn hu K hK
              obtain ⟨e64, g64⟩ : a.tmps[64]? = some (vs 46) ∧ vs 46 = .pointer (some ⟨b2, o2 + k * 4, none⟩) := hn 46 (by decide)
              rw [g64] at e64
              clear g64
              clear hn ho hu
              go_simp
              exact hK _ _ (keeps_refl _) hI rfl
            · intro _ a w1 vs hI ho hn hu K hK
              obtain ⟨e65, g65⟩ : a.tmps[65]? = some (vs 47) ∧ vs 47 = .pointer (some ⟨b2, o2 + k * 4 + 3, none⟩) := hn 47 (by decide)
              rw [g65] at e65
              clear g65
              clear hn ho hu
              have c0 := keeps_cell hI C3.out
              go_simp
              exact hK _ _ (keeps_refl _) hI rfl
            · intro _ a w1 vs hI ho hn hu K hK
              obtain ⟨e66, g66⟩ : a.tmps[66]? = some (vs 48) ∧ vs 48 = .slice pe yc.length qe := hn 48 (by decide)
              rw [g66] at e66
              clear g66
              clear hn ho hu
              go_simp
              exact hK _ _ (keeps_refl _) hI rfl
            · intro _ a w1 vs hI ho hn hu K hK
              obtain ⟨e61, g61⟩ : a.tmps[61]? = some (vs 43) ∧ vs 43 = .int .i64 (xc.length : Int) := hn 43 (by decide)
              rw [g61] at e61
              clear g61
              obtain ⟨e67, g67⟩ : a.tmps[67]? = some (vs 49) ∧ vs 49 = .int .i64 (yc.length : Int) := hn 49 (by decide)
              rw [g67] at e67
              clear g67
              clear hn ho hu
              have i0 := D3.out.1
              have i1 := D3.out.2.1
              have i2 := D3.out.2.2.1
              have i3 := D3.out.2.2.2
              go_simp
              exact hK _ _ (keeps_refl _) hI rfl
            · intro _ a w1 vs hI ho hn hu K hK
              obtain ⟨e55, g55⟩ : a.tmps[55]? = some (vs 37) ∧ vs 37 = .bool false := hn 37 (by decide)
              rw [g55] at e55
              clear g55
              obtain ⟨e68, g68⟩ : a.tmps[68]? = some (vs 50) ∧ vs 50 = .bool true := hn 50 (by decide)
              rw [g68] at e68
              clear g68
              clear hn ho hu
              go_simp
              exact hK _ _ (keeps_refl _) hI rfl
          · intro vs wE hI hG
            have eL51 : vs 51 = .bool true := hG 51 (by decide)
            have HKE := Lib.hid hI
            clear hG hI
            simp only [setAll, Nat.zero_add, Nat.reduceAdd, List.setIfInBounds_toArray, List.set_cons_zero, List.set_cons_succ, eL51]
            clear eL51
            generalize vs 0 = y0 at *
            generalize vs 1 = y1 at *
            generalize vs 2 = y2 at *
            generalize vs 3 = y3 at *
            generalize vs 4 = y4 at *
            generalize vs 5 = y5 at *
            generalize vs 6 = y6 at *
            generalize vs 7 = y7 at *
            generalize vs 8 = y8 at *
            generalize vs 9 = y9 at *
            generalize vs 10 = y10 at *
            generalize vs 11 = y11 at *
            generalize vs 12 = y12 at *
            generalize vs 13 = y13 at *
            generalize vs 14 = y14 at *
            generalize vs 15 = y15 at *
            generalize vs 16 = y16 at *
            generalize vs 17 = y17 at *
            generalize vs 18 = y18 at *
            generalize vs 19 = y19 at *
            generalize vs 20 = y20 at *
            generalize vs 21 = y21 at *
            generalize vs 22 = y22 at *
            generalize vs 23 = y23 at *
            generalize vs 24 = y24 at *
            generalize vs 25 = y25 at *
            generalize vs 26 = y26 at *
            generalize vs 27 = y27 at *
            generalize vs 28 = y28 at *
            generalize vs 29 = y29 at *
            generalize vs 30 = y30 at *
            generalize vs 31 = y31 at *
            generalize vs 32 = y32 at *
            generalize vs 33 = y33 at *
            generalize vs 34 = y34 at *
            generalize vs 35 = y35 at *
            generalize vs 36 = y36 at *
            generalize vs 37 = y37 at *
            generalize vs 38 = y38 at *
            generalize vs 39 = y39 at *
            generalize vs 40 = y40 at *
            generalize vs 41 = y41 at *
            generalize vs 42 = y42 at *
            generalize vs 43 = y43 at *
            generalize vs 44 = y44 at *
            generalize vs 45 = y45 at *
            generalize vs 46 = y46 at *
            generalize vs 47 = y47 at *
            generalize vs 48 = y48 at *
            generalize vs 49 = y49 at *
            generalize vs 50 = y50 at *
            have HKW := Lib.hid (hK.out.trans HKE.out)
            go_wp2_with fail
            go_ret
            exact ⟨by rw [HF2.out]; rfl, HKW.out⟩
        have h3 := Decidable.of_not_not h3
        have D3 : Hid (((xc.length : Int) == (yc.length : Int)) = true ∧ (!decide ((xc.length : Int) = (yc.length : Int))) = false ∧ ((xc.length : Int) != (yc.length : Int)) = false ∧ decide ((xc.length : Int) = (yc.length : Int)) = true) := ⟨beq_iff_eq.2 (show (xc.length : Int) = (yc.length : Int) by omega), by rw [decide_eq_true (show (xc.length : Int) = (yc.length : Int) by omega)]; rfl, by unfold bne; rw [beq_iff_eq.2 (show (xc.length : Int) = (yc.length : Int) by omega)]; rfl, decide_eq_true (show (xc.length : Int) = (yc.length : Int) by omega)⟩
        have G3 := Lib.hid h3
        clear h3
        have HXL : Hid (xc.length = yc.length) := G3.out
        have HXE : Hid (xc = yc → ∀ j, j < k + 1 → eAt l j = eAt m j) := fun e => HN2.out (by rw [G0.out, G1.out, G2.out, e])
        have HXF : Hid (xc ≠ yc → sameE l m = false) := fun e => HF.out fun e2 => e (congrArg EntR.c e2)
        clear G0 G1 G2 G3 HF HN2
        go_wp2_with fail
        refine wp_region_stage [18, 19, 20, 21, 22, 23, 24, 25, 26, 27, 28, 29, 30, 31, 32, 33, 34, 35, 36, 37, 38, 39, 40, 41, 42, 43, 44, 45, 46, 47, 48, 49, 50, 51, 52, 53, 54, 55, 56, 57, 58, 59, 60, 61, 62, 63, 64, 65, 66, 67, 68, 69] [[], [], [0, 1], [2], [3], [], [], [5, 6], [7], [8], [4, 9], [10], [11], [11], [11, 12, 13], [11, 14], [11, 15], [11], [11], [11, 17, 18], [11, 19], [11, 20], [11, 16, 21], [11, 22], [23], [24], [24], [24, 25, 26], [24, 27], [24, 28], [24], [24], [24, 30, 31], [24, 32], [24, 33], [24, 29, 34], [24, 35], [36], [37], [37], [37, 38, 39], [37, 40], [37, 41], [37, 42], [37], [37], [37, 44, 45], [37, 46], [37, 47], [37, 48], [37, 43, 49], [37, 50]] [] [0, 0, 0, 0, 0, 0, 0, 0, 0, 0, 0, 0, 0, 0, 0, 0, 0, 0, 0, 0, 0, 0, 0, 0, 0, 0, 0, 0, 0, 0, 0, 0, 0, 0, 0, 0, 0, 0, 0, 0, 0, 0, 0, 0, 0, 0, 0, 0, 0, 0, 0, 0] [] (fun i v _ => nsm4 b1 o1 l.length q b2 o2 m.length q2 k xn yn xd yd xz yz pc pe xc.length yc.length qc qe i v) (fun w w' => Keeps w w') (fun _ _ w' => Keeps wr w') (by kernel_rfl) (by kernel_rfl) (by kernel_rfl) (by kernel_rfl) (by kernel_rfl) (by kernel_rfl) (by kernel_rfl) ?_ ?_ ?_ ?_ ?_ ?_ ?_
        · exact fun i v w w' c h => h
        · exact fun w => keeps_refl w
        · exact fun i s vs w _ h => h
        · refine ⟨?_, ?_, ?_, ?_, ?_, ?_, ?_, ?_, ?_, ?_, ?_, ?_, ?_, ?_, ?_, ?_, ?_, ?_, ?_, ?_, ?_, ?_, ?_, ?_, ?_, ?_, ?_, ?_, ?_, ?_, ?_, ?_, ?_, ?_, ?_, ?_, ?_, ?_, ?_, ?_, ?_, ?_, ?_, ?_, ?_, ?_, ?_, ?_, ?_, ?_, ?_, ?_, trivial⟩
          · exact fun g b h => by (cases h)
          · exact fun g b h => by (cases h)
          · exact fun g b h => by (cases h)
          · exact fun g b h => by (cases h)
          · exact fun g b h => by (cases h)
          · exact fun g b h => by (cases h)
          · exact fun g b h => by (cases h)
          · exact fun g b h => by (cases h)
          · exact fun g b h => by (cases h)
          · exact fun g b h => by (cases h)
          · exact fun g b h => by (cases h)
          · exact fun g b h => by (cases h)
          · exact fun g b h => by (cases h; exact ⟨by decide, fun v w h => h⟩)
          · exact fun g b h => by (cases h; exact ⟨by decide, fun v w h => h⟩)
          · exact fun g b h => by (cases h; exact ⟨by decide, fun v w h => h⟩)
          · exact fun g b h => by (cases h; exact ⟨by decide, fun v w h => h⟩)
          · exact fun g b h => by (cases h; exact ⟨by decide, fun v w h => h⟩)
          · exact fun g b h => by (cases h; exact ⟨by decide, fun v w h => h⟩)
          · exact fun g b h => by (cases h; exact ⟨by decide, fun v w h => h⟩)
          · exact fun g b h => by (cases h; exact ⟨by decide, fun v w h => h⟩)
          · exact fun g b h => by (cases h; exact ⟨by decide, fun v w h => h⟩)
          · exact fun g b h => by (cases h; exact ⟨by decide, fun v w h => h⟩)
          · exact fun g b h => by (cases h; exact ⟨by decide, fun v w h => h⟩)
          · exact fun g b h => by (cases h)
          · exact fun g b h => by (cases h)
          · exact fun g b h => by (cases h; exact ⟨by decide, fun v w h => h⟩)
          · exact fun g b h => by (cases h; exact ⟨by decide, fun v w h => h⟩)
          · exact fun g b h => by (cases h; exact ⟨by decide, fun v w h => h⟩)
          · exact fun g b h => by (cases h; exact ⟨by decide, fun v w h => h⟩)
          · exact fun g b h => by (cases h; exact ⟨by decide, fun v w h => h⟩)
          · exact fun g b h => by (cases h; exact ⟨by decide, fun v w h => h⟩)
          · exact fun g b h => by (cases h; exact ⟨by decide, fun v w h => h⟩)
          · exact fun g b h => by (cases h; exact ⟨by decide, fun v w h => h⟩)
          · exact fun g b h => by (cases h; exact ⟨by decide, fun v w h => h⟩)
          · exact fun g b h => by (cases h; exact ⟨by decide, fun v w h => h⟩)
          · exact fun g b h => by (cases h; exact ⟨by decide, fun v w h => h⟩)
          · exact fun g b h => by (cases h)
          · exact fun g b h => by (cases h)
          · exact fun g b h => by (cases h; exact ⟨by decide, fun v w h => h⟩)
          · exact fun g b h => by (cases h; exact ⟨by decide, fun v w h => h⟩)
          · exact fun g b h => by (cases h; exact ⟨by decide, fun v w h => h⟩)
          · exact fun g b h => by (cases h; exact ⟨by decide, fun v w h => h⟩)
          · exact fun g b h => by (cases h; exact ⟨by decide, fun v w h => h⟩)
          · exact fun g b h => by (cases h; exact ⟨by decide, fun v w h => h⟩)
          · exact fun g b h => by (cases h; exact ⟨by decide, fun v w h => h⟩)
          · exact fun g b h => by (cases h; exact ⟨by decide, fun v w h => h⟩)
          · exact fun g b h => by (cases h; exact ⟨by decide, fun v w h => h⟩)
          · exact fun g b h => by (cases h; exact ⟨by decide, fun v w h => h⟩)
          · exact fun g b h => by (cases h; exact ⟨by decide, fun v w h => h⟩)
          · exact fun g b h => by (cases h; exact ⟨by decide, fun v w h => h⟩)
          · exact fun g b h => by (cases h; exact ⟨by decide, fun v w h => h⟩)
          · exact fun g b h => by (cases h)
        · exact fun _ _ => keeps_refl wr
        · refine ⟨?_, ?_, ?_, ?_, ?_, ?_, ?_, ?_, ?_, ?_, ?_, ?_, ?_, ?_, ?_, ?_, ?_, ?_, ?_, ?_, ?_, ?_, ?_, ?_, ?_, ?_, ?_, ?_, ?_, ?_, ?_, ?_, ?_, ?_, ?_, ?_, ?_, ?_, ?_, ?_, ?_, ?_, ?_, ?_, ?_, ?_, ?_, ?_, ?_, ?_, ?_, ?_, trivial⟩
          · intro _ a w1 vs hI ho hn hu K hK
            have e0 : a.tmps[0]? = some (.slice (some ⟨b1, o1, none⟩) l.length q) := ho 0 rfl
            clear hn ho hu
            go_simp
            exact hK _ _ (keeps_refl _) hI rfl
          · intro _ a w1 vs hI ho hn hu K hK
            have e5 : a.tmps[5]? = some (.int .i64 (k : Int)) := ho 5 rfl
            clear hn ho hu
            go_simp
            exact hK _ _ (keeps_refl _) hI rfl
          · intro _ a w1 vs hI ho hn hu K hK
            obtain ⟨e18, g18⟩ : a.tmps[18]? = some (vs 0) ∧ vs 0 = .slice (some ⟨b1, o1, none⟩) l.length q := hn 0 (by decide)
            rw [g18] at e18
            clear g18
            obtain ⟨e19, g19⟩ : a.tmps[19]? = some (vs 1) ∧ vs 1 = .int .i64 (k : Int) := hn 1 (by decide)
            rw [g19] at e19
            clear g19
            clear hn ho hu
            have i1 := HA.out.1
            have i2 := HA.out.2.1
            have i3 := HA.out.2.2
            go_simp
            exact hK _ _ (keeps_refl _) hI rfl
          · intro _ a w1 vs hI ho hn hu K hK
            obtain ⟨e20, g20⟩ : a.tmps[20]? = some (vs 2) ∧ vs 2 = .pointer (some ⟨b1, o1 + k * 4, none⟩) := hn 2 (by decide)
            rw [g20] at e20
            clear g20
            clear hn ho hu
            go_simp
            exact hK _ _ (keeps_refl _) hI rfl
          · intro _ a w1 vs hI ho hn hu K hK
            obtain ⟨e21, g21⟩ : a.tmps[21]? = some (vs 3) ∧ vs 3 = .pointer (some ⟨b1, o1 + k * 4, none⟩) := hn 3 (by decide)
            rw [g21] at e21
            clear g21
            clear hn ho hu
            have c0 := keeps_cell hI A0.out
            go_simp
            exact hK _ _ (keeps_refl _) hI rfl
          · intro _ a w1 vs hI ho hn hu K hK
            have e1 : a.tmps[1]? = some (.slice (some ⟨b2, o2, none⟩) m.length q2) := ho 1 rfl
            clear hn ho hu
            go_simp
            exact hK _ _ (keeps_refl _) hI rfl
          · intro _ a w1 vs hI ho hn hu K hK
            have e5 : a.tmps[5]? = some (.int .i64 (k : Int)) := ho 5 rfl
            clear hn ho hu
            go_simp
            exact hK _ _ (keeps_refl _) hI rfl
          · intro _ a w1 vs hI ho hn hu K hK
            obtain ⟨e23, g23⟩ : a.tmps[23]? = some (vs 5) ∧ vs 5 = .slice (some ⟨b2, o2, none⟩) m.length q2 := hn 5 (by decide)
            rw [g23] at e23
            clear g23
            obtain ⟨e24, g24⟩ : a.tmps[24]? = some (vs 6) ∧ vs 6 = .int .i64 (k : Int) := hn 6 (by decide)
            rw [g24] at e24
            clear g24
            clear hn ho hu
            have i1 := HA.out.1
            have i2 := HA.out.2.1
            have i3 := HA.out.2.2
            go_simp
            exact hK _ _ (keeps_refl _) hI rfl
          · intro _ a w1 vs hI ho hn hu K hK
            obtain ⟨e25, g25⟩ : a.tmps[25]? = some (vs 7) ∧ vs 7 = .pointer (some ⟨b2, o2 + k * 4, none⟩) := hn 7 (by decide)
            rw [g25] at e25
            clear g25
            clear hn ho hu
            go_simp
            exact hK _ _ (keeps_refl _) hI rfl
          · intro _ a w1 vs hI ho hn hu K hK
            obtain ⟨e26, g26⟩ : a.tmps[26]? = some (vs 8) ∧ vs 8 = .pointer (some ⟨b2, o2 + k * 4, none⟩) := hn 8 (by decide)
            rw [g26] at e26
            clear g26
            clear hn ho hu
            have c0 := keeps_cell hI C0.out
            go_simp
            exact hK _ _ (keeps_refl _) hI rfl
          · intro _ a w1 vs hI ho hn hu K hK
            obtain ⟨e22, g22⟩ : a.tmps[22]? = some (vs 4) ∧ vs 4 = .string xn := hn 4 (by decide)
            rw [g22] at e22
            clear g22
            obtain ⟨e27, g27⟩ : a.tmps[27]? = some (vs 9) ∧ vs 9 = .string yn := hn 9 (by decide)
            rw [g27] at e27
            clear g27
            clear hn ho hu
            have i0 := D0.out.1
            have i1 := D0.out.2.1
            have i2 := D0.out.2.2.1
            have i3 := D0.out.2.2.2
            go_simp
            exact hK _ _ (keeps_refl _) hI rfl
          · intro _ a w1 vs hI ho hn hu K hK
            obtain ⟨e28, g28⟩ : a.tmps[28]? = some (vs 10) ∧ vs 10 = .bool false := hn 10 (by decide)
            rw [g28] at e28
            clear g28
            clear hn ho hu
            go_simp
            exact hK _ _ (keeps_refl _) hI rfl
          · intro _ a w1 vs hI ho hn hu K hK
            have e0 : a.tmps[0]? = some (.slice (some ⟨b1, o1, none⟩) l.length q) := ho 0 rfl
            clear hn ho hu
            go_simp
            exact hK _ _ (keeps_refl _) hI rfl
          · intro _ a w1 vs hI ho hn hu K hK
            have e5 : a.tmps[5]? = some (.int .i64 (k : Int)) := ho 5 rfl
            clear hn ho hu
            go_simp
            exact hK _ _ (keeps_refl _) hI rfl
          · intro _ a w1 vs hI ho hn hu K hK
            obtain ⟨e30, g30⟩ : a.tmps[30]? = some (vs 12) ∧ vs 12 = .slice (some ⟨b1, o1, none⟩) l.length q := hn 12 (by decide)
            rw [g30] at e30
            clear g30
            obtain ⟨e31, g31⟩ : a.tmps[31]? = some (vs 13) ∧ vs 13 = .int .i64 (k : Int) := hn 13 (by decide)
            rw [g31] at e31
            clear g31
            clear hn ho hu
            have i1 := HA.out.1
            have i2 := HA.out.2.1
            have i3 := HA.out.2.2
            go_simp
            exact hK _ _ (keeps_refl _) hI rfl
          · intro _ a w1 vs hI ho hn hu K hK
            obtain ⟨e32, g32⟩ : a.tmps[32]? = some (vs 14) ∧ vs 14 = .pointer (some ⟨b1, o1 + k * 4, none⟩) := hn 14 (by decide)
            rw [g32] at e32
            clear g32
            clear hn ho hu
            go_simp
            exact hK _ _ (keeps_refl _) hI rfl
          · intro _ a w1 vs hI ho hn hu K hK
            obtain ⟨e33, g33⟩ : a.tmps[33]? = some (vs 15) ∧ vs 15 = .pointer (some ⟨b1, o1 + k * 4 + 1, none⟩) := hn 15 (by decide)
            rw [g33] at e33
            clear g33
            clear hn ho hu
            have c0 := keeps_cell hI A1.out
            go_simp
            exact hK _ _ (keeps_refl _) hI rfl
          · intro _ a w1 vs hI ho hn hu K hK
            have e1 : a.tmps[1]? = some (.slice (some ⟨b2, o2, none⟩) m.length q2) := ho 1 rfl
            clear hn ho hu
            go_simp
            exact hK _ _ (keeps_refl _) hI rfl
          · intro _ a w1 vs hI ho hn hu K hK
            have e5 : a.tmps[5]? = some (.int .i64 (k : Int)) := ho 5 rfl
            clear hn ho hu
            go_simp
            exact hK _ _ (keeps_refl _) hI rfl
          · intro _ a w1 vs hI ho hn hu K hK
            obtain ⟨e35, g35⟩ : a.tmps[35]? = some (vs 17) ∧ vs 17 = .slice (some ⟨b2, o2, none⟩) m.length q2 := hn 17 (by decide)
            rw [g35] at e35
            clear g35
            obtain ⟨e36, g36⟩ : a.tmps[36]? = some (vs 18) ∧ vs 18 = .int .i64 (k : Int) := hn 18 (by decide)
            rw [g36] at e36
            clear g36
            clear hn ho hu
            have i1 := HA.out.1
            have i2 := HA.out.2.1
            have i3 := HA.out.2.2
            go_simp
            exact hK _ _ (keeps_refl _) hI rfl
          · intro _ a w1 vs hI ho hn hu K hK
            obtain ⟨e37, g37⟩ : a.tmps[37]? = some (vs 19) ∧ vs 19 = .pointer (some ⟨b2, o2 + k * 4, none⟩) := hn 19 (by decide)
            rw [g37] at e37
            clear g37
            clear hn ho hu
            go_simp
            exact hK _ _ (keeps_refl _) hI rfl
          · intro _ a w1 vs hI ho hn hu K hK
            obtain ⟨e38, g38⟩ : a.tmps[38]? = some (vs 20) ∧ vs 20 = .pointer (some ⟨b2, o2 + k * 4 + 1, none⟩) := hn 20 (by decide)
            rw [g38] at e38
            clear g38
            clear hn ho hu
            have c0 := keeps_cell hI C1.out
            go_simp
            exact hK _ _ (keeps_refl _) hI rfl
          · intro _ a w1 vs hI ho hn hu K hK
            obtain ⟨e34, g34⟩ : a.tmps[34]? = some (vs 16) ∧ vs 16 = .bool xd := hn 16 (by decide)
            rw [g34] at e34
            clear g34
            obtain ⟨e39, g39⟩ : a.tmps[39]? = some (vs 21) ∧ vs 21 = .bool yd := hn 21 (by decide)
            rw [g39] at e39
            clear g39
            clear hn ho hu
            have i0 := D1.out.1
            have i1 := D1.out.2.1
            have i2 := D1.out.2.2.1
            have i3 := D1.out.2.2.2
            go_simp
            exact hK _ _ (keeps_refl _) hI rfl
          · intro _ a w1 vs hI ho hn hu K hK
            obtain ⟨e29, g29⟩ : a.tmps[29]? = some (vs 11) ∧ vs 11 = .bool false := hn 11 (by decide)
            rw [g29] at e29
            clear g29
            obtain ⟨e40, g40⟩ : a.tmps[40]? = some (vs 22) ∧ vs 22 = .bool false := hn 22 (by decide)
            rw [g40] at e40
            clear g40
            clear hn ho hu
            go_simp
            exact hK _ _ (keeps_refl _) hI rfl
          · intro _ a w1 vs hI ho hn hu K hK
            obtain ⟨e41, g41⟩ : a.tmps[41]? = some (vs 23) ∧ vs 23 = .bool false := hn 23 (by decide)
            rw [g41] at e41
            clear g41
            clear hn ho hu
            go_simp
            exact hK _ _ (keeps_refl _) hI rfl
          · intro _ a w1 vs hI ho hn hu K hK
            have e0 : a.tmps[0]? = some (.slice (some ⟨b1, o1, none⟩) l.length q) := ho 0 rfl
            clear hn ho hu
            go_simp
            exact hK _ _ (keeps_refl _) hI rfl
          · intro _ a w1 vs hI ho hn hu K hK
            have e5 : a.tmps[5]? = some (.int .i64 (k : Int)) := ho 5 rfl
            clear hn ho hu
            go_simp
            exact hK _ _ (keeps_refl _) hI rfl
          · intro _ a w1 vs hI ho hn hu K hK
            obtain ⟨e43, g43⟩ : a.tmps[43]? = some (vs 25) ∧ vs 25 = .slice (some ⟨b1, o1, none⟩) l.length q := hn 25 (by decide)
            rw [g43] at e43
            clear g43
            obtain ⟨e44, g44⟩ : a.tmps[44]? = some (vs 26) ∧ vs 26 = .int .i64 (k : Int) := hn 26 (by decide)
            rw [g44] at e44
            clear g44
            clear hn ho hu
            have i1 := HA.out.1
            have i2 := HA.out.2.1
            have i3 := HA.out.2.2
            go_simp
            exact hK _ _ (keeps_refl _) hI rfl
          · intro _ a w1 vs hI ho hn hu K hK
            obtain ⟨e45, g45⟩ : a.tmps[45]? = some (vs 27) ∧ vs 27 = .pointer (some ⟨b1, o1 + k * 4, none⟩) := hn 27 (by decide)
            rw [g45] at e45
            clear g45
            clear hn ho hu
            go_simp
            exact hK _ _ (keeps_refl _) hI rfl
          · intro _ a w1 vs hI ho hn hu K hK
            obtain ⟨e46, g46⟩ : a.tmps[46]? = some (vs 28) ∧ vs 28 = .pointer (some ⟨b1, o1 + k * 4 + 2, none⟩) := hn 28 (by decide)
            rw [g46] at e46
            clear g46
            clear hn ho hu
            have c0 := keeps_cell hI A2.out
            go_simp
            exact hK _ _ (keeps_refl _) hI rfl
          · intro _ a w1 vs hI ho hn hu K hK
            have e1 : a.tmps[1]? = some (.slice (some ⟨b2, o2, none⟩) m.length q2) := ho 1 rfl
            clear hn ho hu
            go_simp
            exact hK _ _ (keeps_refl _) hI rfl
          · intro _ a w1 vs hI ho hn hu K hK
            have e5 : a.tmps[5]? = some (.int .i64 (k : Int)) := ho 5 rfl
            clear hn ho hu
            go_simp
            exact hK _ _ (keeps_refl _) hI rfl
          · intro _ a w1 vs hI ho hn hu K hK
            obtain ⟨e48, g48⟩ : a.tmps[48]? = some (vs 30) ∧ vs 30 = .slice (some ⟨b2, o2, none⟩) m.length q2 := hn 30 (by decide)
            rw [g48] at e48
            clear g48
            obtain ⟨e49, g49⟩ : a.tmps[49]? = some (vs 31) ∧ vs 31 = .int .i64 (k : Int) := hn 31 (by decide)
            rw [g49] at e49
            clear g49
            clear hn ho hu
            have i1 := HA.out.1
            have i2 := HA.out.2.1
            have i3 := HA.out.2.2
            go_simp
            exact hK _ _ (keeps_refl _) hI rfl
          · intro _ a w1 vs hI ho hn hu K hK
            obtain ⟨e50, g50⟩ : a.tmps[50]? = some (vs 32) ∧ vs 32 = .pointer (some ⟨b2, o2 + k * 4, none⟩) := hn 32 (by decide)
            rw [g50] at e50
            clear g50
            clear hn ho hu
            go_simp
            exact hK _ _ (keeps_refl _) hI rfl
          · intro _ a w1 vs hI ho hn hu K hK
            obtain ⟨e51, g51⟩ : a.tmps[51]? = some (vs 33) ∧ vs 33 = .pointer (some ⟨b2, o2 + k * 4 + 2, none⟩) := hn 33 (by decide)
            rw [g51] at e51
            clear g51
            clear hn ho hu
            have c0 := keeps_cell hI C2.out
            go_simp
            exact hK _ _ (keeps_refl _) hI rfl
          · intro _ a w1 vs hI ho hn hu K hK
            obtain ⟨e47, g47⟩ : a.tmps[47]? = some (vs 29) ∧ vs 29 = .int .i64 xz := hn 29 (by decide)
            rw [g47] at e47
            clear g47
            obtain ⟨e52, g52⟩ : a.tmps[52]? = some (vs 34) ∧ vs 34 = .int .i64 yz := hn 34 (by decide)
            rw [g52] at e52
            clear g52
            clear hn ho hu
            have i0 := D2.out.1
            have i1 := D2.out.2.1
            have i2 := D2.out.2.2.1
            have i3 := D2.out.2.2.2
            go_simp
            exact hK _ _ (keeps_refl _) hI rfl
          · intro _ a w1 vs hI ho hn hu K hK
            obtain ⟨e42, g42⟩ : a.tmps[42]? = some (vs 24) ∧ vs 24 = .bool false := hn 24 (by decide)
            rw [g42] at e42
            clear g42
            obtain ⟨e53, g53⟩ : a.tmps[53]? = some (vs 35) ∧ vs 35 = .bool false := hn 35 (by decide)
            rw [g53] at e53
            clear g53
            clear hn ho hu
            go_simp
            exact hK _ _ (keeps_refl _) hI rfl
          · intro _ a w1 vs hI ho hn hu K hK
            obtain ⟨e54, g54⟩ : a.tmps[54]? = some (vs 36) ∧ vs 36 = .bool false := hn 36 (by decide)
            rw [g54] at e54
            clear g54
            clear hn ho hu
            go_simp
            exact hK _ _ (keeps_refl _) hI rfl
          · intro _ a w1 vs hI ho hn hu K hK
            have e0 : a.tmps[0]? = some (.slice (some ⟨b1, o1, none⟩) l.length q) := ho 0 rfl
            clear hn ho hu
            go_simp
            exact hK _ _ (keeps_refl _) hI rfl
          · intro _ a w1 vs hI ho hn hu K hK
            have e5 : a.tmps[5]? = some (.int .i64 (k : Int)) := ho 5 rfl
            clear hn ho hu
            go_simp
            exact hK _ _ (keeps_refl _) hI rfl
          · intro _ a w1 vs hI ho hn hu K hK
            obtain ⟨e56, g56⟩ : a.tmps[56]? = some (vs 38) ∧ vs 38 = .slice (some ⟨b1, o1, none⟩) l.length q := hn 38 (by decide)
            rw [g56] at e56
            clear g56
            obtain ⟨e57, g57⟩ : a.tmps[57]? = some (vs 39) ∧ vs 39 = .int .i64 (k : Int) := hn 39 (by decide)
            rw [g57] at e57
            clear g57
            clear hn ho hu
            have i1 := HA.out.1
            have i2 := HA.out.2.1
            have i3 := HA.out.2.2
            go_simp
            exact hK _ _ (keeps_refl _) hI rfl
          · intro _ a w1 vs hI ho hn hu K hK
            obtain ⟨e58, g58⟩ : a.tmps[58]? = some (vs 40) ∧ vs 40 = .pointer (some ⟨b1, o1 + k * 4, none⟩) := hn 40 (by decide)
            rw [g58] at e58
            clear g58
            clear hn ho hu
            go_simp
            exact hK _ _ (keeps_refl _) hI rfl
          · intro _ a w1 vs hI ho hn hu K hK
            obtain ⟨e59, g59⟩ : a.tmps[59]? = some (vs 41) ∧ vs 41 = .pointer (some ⟨b1, o1 + k * 4 + 3, none⟩) := hn 41 (by decide)
            rw [g59] at e59
            clear g59
            clear hn ho hu
            have c0 := keeps_cell hI A3.out
            go_simp
            exact hK _ _ (keeps_refl _) hI rfl
          · intro _ a w1 vs hI ho hn hu K hK
            obtain ⟨e60, g60⟩ : a.tmps[60]? = some (vs 42) ∧ vs 42 = .slice pc xc.length qc := hn 42 (by decide)
            rw [g60] at e60
            clear g60
            clear hn ho hu
            go_simp
            exact hK _ _ (keeps_refl _) hI rfl
          · intro _ a w1 vs hI ho hn hu K hK
            have e1 : a.tmps[1]? = some (.slice (some ⟨b2, o2, none⟩) m.length q2) := ho 1 rfl
            clear hn ho hu
            go_simp
            exact hK _ _ (keeps_refl _) hI rfl
          · intro _ a w1 vs hI ho hn hu K hK
            have e5 : a.tmps[5]? = some (.int .i64 (k : Int)) := ho 5 rfl
            clear hn ho hu
            go_simp
            exact hK _ _ (keeps_refl _) hI rfl
          · intro _ a w1 vs hI ho hn hu K hK
            obtain ⟨e62, g62⟩ : a.tmps[62]? = some (vs 44) ∧ vs 44 = .slice (some ⟨b2, o2, none⟩) m.length q2 := hn 44 (by decide)
            rw [g62] at e62
            clear g62
            obtain ⟨e63, g63⟩ : a.tmps[63]? = some (vs 45) ∧ vs 45 = .int .i64 (k : Int) := hn 45 (by decide)
            rw [g63] at e63
            clear g63
            clear hn ho hu
            have i1 := HA.out.1
            have i2 := HA.out.2.1
            have i3 := HA.out.2.2
            go_simp
            exact hK _ _ (keeps_refl _) hI rfl
          · intro _ a w1 vs hI ho hn hu K hK
            obtain ⟨e64, g64⟩ : a.tmps[64]? = some (vs 46) ∧ vs 46 = .pointer (some ⟨b2, o2 + k * 4, none⟩) := hn 46 (by decide)
            rw [g64] at e64
            clear g64
            clear hn ho hu
            go_simp
            exact hK _ _ (keeps_refl _) hI rfl
          · intro _ a w1 vs hI ho hn hu K hK
            obtain ⟨e65, g65⟩ : a.tmps[65]? = some (vs 47) ∧ vs 47 = .pointer (some ⟨b2, o2 + k * 4 + 3, none⟩) := hn 47 (by decide)
            rw [g65] at e65
            clear g65
            clear hn ho hu
            have c0 := keeps_cell hI C3.out
            go_simp
            exact hK _ _ (keeps_refl _) hI rfl
          · intro _ a w1 vs hI ho hn hu K hK
            obtain ⟨e66, g66⟩ : a.tmps[66]? = some (vs 48) ∧ vs 48 = .slice pe yc.length qe := hn 48 (by decide)
            rw [g66] at e66
            clear g66
            clear hn ho hu
            go_simp
            exact hK _ _ (keeps_refl _) hI rfl
          · intro _ a w1 vs hI ho hn hu K hK
            obtain ⟨e61, g61⟩ : a.tmps[61]? = some (vs 43) ∧ vs 43 = .int .i64 (xc.length : Int) := hn 43 (by decide)
            rw [g61] at e61
            clear g61
            obtain ⟨e67, g67⟩ : a.tmps[67]? = some (vs 49) ∧ vs 49 = .int .i64 (yc.length : Int) := hn 49 (by decide)
            rw [g67] at e67
            clear g67
            clear hn ho hu
            have i0 := D3.out.1
            have i1 := D3.out.2.1
            have i2 := D3.out.2.2.1
            have i3 := D3.out.2.2.2
            go_simp
            exact hK _ _ (keeps_refl _) hI rfl
          · intro _ a w1 vs hI ho hn hu K hK
            obtain ⟨e55, g55⟩ : a.tmps[55]? = some (vs 37) ∧ vs 37 = .bool false := hn 37 (by decide)
            rw [g55] at e55
            clear g55
            obtain ⟨e68, g68⟩ : a.tmps[68]? = some (vs 50) ∧ vs 50 = .bool false := hn 50 (by decide)
            rw [g68] at e68
            clear g68
            clear hn ho hu
            go_simp
            exact hK _ _ (keeps_refl _) hI rfl
        · intro vs wE hI hG
          have eL51 : vs 51 = .bool false := hG 51 (by decide)
          have HKE := Lib.hid hI
          clear hG hI
          simp only [setAll, Nat.zero_add, Nat.reduceAdd, List.setIfInBounds_toArray, List.set_cons_zero, List.set_cons_succ, eL51]
          clear eL51
          generalize vs 0 = y0 at *
          generalize vs 1 = y1 at *
          generalize vs 2 = y2 at *
          generalize vs 3 = y3 at *
          generalize vs 4 = y4 at *
          generalize vs 5 = y5 at *
          generalize vs 6 = y6 at *
          generalize vs 7 = y7 at *
          generalize vs 8 = y8 at *
          generalize vs 9 = y9 at *
          generalize vs 10 = y10 at *
          generalize vs 11 = y11 at *
          generalize vs 12 = y12 at *
          generalize vs 13 = y13 at *
          generalize vs 14 = y14 at *
          generalize vs 15 = y15 at *
          generalize vs 16 = y16 at *
          generalize vs 17 = y17 at *
          generalize vs 18 = y18 at *
          generalize vs 19 = y19 at *
          generalize vs 20 = y20 at *
          generalize vs 21 = y21 at *
          generalize vs 22 = y22 at *
          generalize vs 23 = y23 at *
          generalize vs 24 = y24 at *
          generalize vs 25 = y25 at *
          generalize vs 26 = y26 at *
          generalize vs 27 = y27 at *
          generalize vs 28 = y28 at *
          generalize vs 29 = y29 at *
          generalize vs 30 = y30 at *
          generalize vs 31 = y31 at *
          generalize vs 32 = y32 at *
          generalize vs 33 = y33 at *
          generalize vs 34 = y34 at *
          generalize vs 35 = y35 at *
          generalize vs 36 = y36 at *
          generalize vs 37 = y37 at *
          generalize vs 38 = y38 at *
          generalize vs 39 = y39 at *
          generalize vs 40 = y40 at *
          generalize vs 41 = y41 at *
          generalize vs 42 = y42 at *
          generalize vs 43 = y43 at *
          generalize vs 44 = y44 at *
          generalize vs 45 = y45 at *
          generalize vs 46 = y46 at *
          generalize vs 47 = y47 at *
          generalize vs 48 = y48 at *
          generalize vs 49 = y49 at *
          generalize vs 50 = y50 at *
          have HKE2 := Lib.hid (hK.out.trans HKE.out)
          clear HKE A0 A1 A2 A3 C0 C1 C2 C3 D0 D1 D2 D3
          go_wp2_with fail
          go_loopw [6] (fun i wx => ∃ t : Nat, t ≤ xc.length ∧ i = .int .i64 t ∧ Hid (∀ j, j < t → tAt xc j = tAt yc j) ∧ Hid (Keeps w wx)) (fun i _ => xc.length - (intOf i).toNat)
          case atStart => exact ⟨0, by omega, rfl, fun j h => absurd h (by omega), HKE2⟩
          case round =>
            clear HKE2
            obtain ⟨t, ht, rfl, hT, hX⟩ := hrel
            have i1 := HA.out.1
            have i2 := HA.out.2.1
            have i3 := HA.out.2.2
            have k3 := keeps_cell hX.out W3.out
            have k4 := keeps_cell hX.out V3.out
            by_cases htl : t < xc.length
            · have t1 : (t : Int) < (xc.length : Int) := by omega
              have t0 : (0 : Int) ≤ (t : Int) := by omega
              have t2 : (t : Int) < (yc.length : Int) := by have := HXL.out; omega
              obtain ⟨bx, ox, rfl, d1⟩ := text_cell (SeqAt.keeps HTX.out hX.out) htl
              obtain ⟨by_, oy, rfl, d2⟩ := text_cell (SeqAt.keeps HTY.out hX.out) (i := t) (by have := HXL.out; omega)
              have HT2 : Hid (tAt xc t = tAt yc t → ∀ j, j < t + 1 → tAt xc j = tAt yc j) := fun e j hj => by
                by_cases e2 : j = t
                · subst e2; exact e
                · exact hT.out j (by omega)
              have HTF : Hid (tAt xc t ≠ tAt yc t → sameE l m = false) := fun e => HXF.out fun e2 => e (by rw [e2])
              generalize tAt xc t = S1 at *
              generalize tAt yc t = S2 at *
              by_cases hs : S1 = S2
              · have q1 : (S1.toList == S2.toList) = true := by rw [txt_eq]; exact decide_eq_true hs
                have q2 : (S1.toList != S2.toList) = false := by unfold bne; rw [q1]; rfl
                have HT3 := Lib.hid (HT2.out hs)
                clear hs
                go_wp2_with fail
                go_quiet (fail)
                go_wp2_with fail
                refine ⟨?_, by simp [intOf]; omega⟩
                first | exact ⟨t + 1, by omega, by go_num, HT3, hX⟩ | ((repeat apply Exists.intro); exact ⟨⟨t + 1, by omega, by go_num, HT3, hX⟩, rfl⟩)
              · have q1 : (S1.toList == S2.toList) = false := by rw [txt_eq]; exact decide_eq_false hs
                have q2 : (S1.toList != S2.toList) = true := by unfold bne; rw [q1]; rfl
                have HT3 := Lib.hid (HTF.out hs)
                clear hs
                go_wp2_with fail
                go_quiet (fail)
                go_wp2_with fail
                go_ret
                exact ⟨by rw [HT3.out]; rfl, hX.out⟩
            · obtain rfl : t = xc.length := by omega
              have HN3 := Lib.hid (HXE.out (texts_ext HXL.out hT.out))
              go_wp2_with fail
              refine ⟨?_, by simp [intOf]; omega⟩
              first | exact ⟨k + 1, by omega, by go_num, HN3, hX⟩ | ((repeat apply Exists.intro); exact ⟨⟨k + 1, by omega, by go_num, HN3, hX⟩, rfl⟩)
      · obtain rfl : k = l.length := by omega
        have HT : Hid (sameE l m = true) := decide_eq_true (ents_ext HE.out hN.out)
        go_wp2_with fail
        go_ret
        exact ⟨by rw [HT.out]; rfl, hK.out⟩
  · have HS : Hid (sameE l m = false) := decide_eq_false fun e => he (by rw [e])
    have g1 : ((l.length : Int) == (m.length : Int)) = false := beq_false_of_ne (by omega)
    have g2 : decide ((l.length : Int) = (m.length : Int)) = false := decide_eq_false (by omega)
    have g3 : (l.length == m.length) = false := beq_false_of_ne he
    clear he
    go_enter Tryd.func16, Tryd.ntmps16
    go_wp2_with fail
    go_ret
    exact ⟨by rw [HS.out]; rfl, keeps_refl _⟩
end Go.Proofs.YtdpfanifagfciaaDoor
/- The walks of slices.Equal at texts, node.Same$1, slices.EqualFunc at it, node.Same. Printed by gennsm.py. -/
namespace Go.Proofs.YtdpfanifagfciaaDoor
open Go.RowKit
attribute [local go_sem ↓] Go.wp_at_zero Go.wp_at_succ
set_option maxRecDepth 100000 in
set_option maxHeartbeats 4000000 in
theorem eqtexts_any (p p2 : Option Addr) (q q2 : Nat) (c d : List ByteArray) (w : World) (h : SeqAt IsText w.heap (.slice p c.length q) c) (hm : SeqAt IsText w.heap (.slice p2 d.length q2) d) : Calls Tryd.prog 63 #[.slice p c.length q, .slice p2 d.length q2] w fun e w' => e = .returned (.bool (decide (c = d))) ∧ Keeps w w' := by
  have hl63 : c.length ≤ 9223372036854775807 := let ⟨_, _, _, x, _⟩ := h; x
  have hm63 : d.length ≤ 9223372036854775807 := let ⟨_, _, _, x, _⟩ := hm; x
  have H := Lib.hid h
  have HM := Lib.hid hm
  clear h hm
  by_cases he : c.length = d.length
  · have g1 : ((c.length : Int) == (d.length : Int)) = true := by rw [beq_iff_eq]; omega
    have g2 : decide ((c.length : Int) = (d.length : Int)) = true := decide_eq_true (by omega)
    have g3 : (c.length == d.length) = true := by rw [beq_iff_eq]; exact he
    have HE := Lib.hid he
    clear he
    go_enter Tryd.func63, Tryd.ntmps63
    go_wp2_with fail
    clear g1 g2 g3
    generalize ((c.length : Int) != (d.length : Int)) = bb
    go_loopw [13] (fun i wr => ∃ k : Nat, k ≤ c.length ∧ i = .int .i64 k ∧ Hid (∀ j, j < k → tAt c j = tAt d j) ∧ Hid (Keeps w wr)) (fun i _ => c.length - (intOf i).toNat)
    case atStart => exact ⟨0, by omega, rfl, fun j h => absurd h (by omega), keeps_refl _⟩
    case round =>
      obtain ⟨k, hk, rfl, hN, hK⟩ := hrel
      by_cases hlt : k < c.length
      · have t1 : (k : Int) < (c.length : Int) := by omega
        have t0 : (0 : Int) ≤ (k : Int) := by omega
        have t2 : (k : Int) < (d.length : Int) := by have := HE.out; omega
        obtain ⟨bx, ox, rfl, d1⟩ := text_cell (SeqAt.keeps H.out hK.out) hlt
        obtain ⟨b2, o2, rfl, d2⟩ := text_cell (SeqAt.keeps HM.out hK.out) (i := k) (by have := HE.out; omega)
        have HT2 : Hid (tAt c k = tAt d k → ∀ j, j < k + 1 → tAt c j = tAt d j) := fun e j hj => by
          by_cases e2 : j = k
          · subst e2; exact e
          · exact hN.out j (by omega)
        have HTF : Hid (tAt c k ≠ tAt d k → decide (c = d) = false) := fun e => decide_eq_false fun e2 => e (by rw [e2])
        generalize tAt c k = S1 at *
        generalize tAt d k = S2 at *
        by_cases hs : S1 = S2
        · have q1 : (S1.toList == S2.toList) = true := by rw [txt_eq]; exact decide_eq_true hs
          have q2 : (S1.toList != S2.toList) = false := by unfold bne; rw [q1]; rfl
          have HT3 := Lib.hid (HT2.out hs)
          clear hs
          go_wp2_with fail
          go_quiet (fail)
          go_wp2_with fail
          refine ⟨?_, by simp [intOf]; omega⟩
          first | exact ⟨k + 1, by omega, by go_num, HT3, hK⟩ | ((repeat apply Exists.intro); exact ⟨⟨k + 1, by omega, by go_num, HT3, hK⟩, rfl⟩)
        · have q1 : (S1.toList == S2.toList) = false := by rw [txt_eq]; exact decide_eq_false hs
          have q2 : (S1.toList != S2.toList) = true := by unfold bne; rw [q1]; rfl
          have HT3 := Lib.hid (HTF.out hs)
          clear hs
          go_wp2_with fail
          go_quiet (fail)
          go_wp2_with fail
          go_ret
          exact ⟨by rw [HT3.out]; rfl, hK.out⟩
      · obtain rfl : k = c.length := by omega
        have HT : Hid (decide (c = d) = true) := decide_eq_true (texts_ext HE.out hN.out)
        go_wp2_with fail
        go_ret
        exact ⟨by rw [HT.out]; rfl, hK.out⟩
  · have HS : Hid (decide (c = d) = false) := decide_eq_false fun e => he (by rw [e])
    have g1 : ((c.length : Int) == (d.length : Int)) = false := beq_false_of_ne (by omega)
    have g2 : decide ((c.length : Int) = (d.length : Int)) = false := decide_eq_false (by omega)
    have g3 : (c.length == d.length) = false := beq_false_of_ne he
    clear he
    go_enter Tryd.func63, Tryd.ntmps63
    go_wp2_with fail
    go_ret
    exact ⟨by rw [HS.out]; rfl, keeps_refl _⟩
set_option maxRecDepth 100000 in
set_option maxHeartbeats 4000000 in
theorem same1_any (xn yn : ByteArray) (xd yd : Bool) (xz yz : Int) (xc yc : List ByteArray) (pc pe : Option Addr) (qc qe : Nat) (w : World) (h : SeqAt IsText w.heap (.slice pc xc.length qc) xc) (hm : SeqAt IsText w.heap (.slice pe yc.length qe) yc) :
    Calls Tryd.prog 62 (#[.agg #[.string xn, .bool xd, .int .i64 xz, .slice pc xc.length qc], .agg #[.string yn, .bool yd, .int .i64 yz, .slice pe yc.length qe]] ++ #[]) w fun e w' => e = .returned (.bool (decide ((⟨xn, xd, xz, xc⟩ : EntR) = ⟨yn, yd, yz, yc⟩))) ∧ Keeps w w' := by
  have H := Lib.hid h
  have HM := Lib.hid hm
  clear h hm
  have HF : Hid ((⟨xn, xd, xz, xc⟩ : EntR) ≠ ⟨yn, yd, yz, yc⟩ → decide ((⟨xn, xd, xz, xc⟩ : EntR) = ⟨yn, yd, yz, yc⟩) = false) := fun e => decide_eq_false e
  have HQ : Hid (xn = yn → xd = yd → xz = yz → decide ((⟨xn, xd, xz, xc⟩ : EntR) = ⟨yn, yd, yz, yc⟩) = decide (xc = yc)) := fun a b c => by subst a b c; simp
  generalize hr : decide ((⟨xn, xd, xz, xc⟩ : EntR) = ⟨yn, yd, yz, yc⟩) = r at *
  clear hr
  by_cases h0 : xn ≠ yn
  · have HR := Lib.hid (HF.out fun e => h0 (congrArg EntR.n e))
    have i1 : (xn.toList == yn.toList) = false := by rw [txt_eq]; exact decide_eq_false h0
    clear h0
    go_enter Tryd.func62, Tryd.ntmps62
    obtain ⟨w1, hw1⟩ : ∃ w1, w1 = (w.alloc (.cells #[.string xn, .bool xd, .int .i64 xz, .slice pc xc.length qc] 33)).alloc (.cells #[.string yn, .bool yd, .int .i64 yz, .slice pe yc.length qe] 33) := ⟨_, rfl⟩
    have B1 : BlkAt w1 w.heap.size 33 #[.string xn, .bool xd, .int .i64 xz, .slice pc xc.length qc] := by rw [hw1]; exact (BlkAt.new w _ _).keeps (kal _ _)
    have B2 : BlkAt w1 (w.heap.size + 1) 33 #[.string yn, .bool yd, .int .i64 yz, .slice pe yc.length qe] := by rw [hw1]; exact heap_alloc_last1 w _ _
    have HK1 : Hid (Keeps w w1) := by rw [hw1]; exact (kal _ _).trans (kal _ _)
    have a0 := B1.cell (i := 0) rfl
    have a1 := B1.cell (i := 1) rfl
    have a2 := B1.cell (i := 2) rfl
    have a3 := B1.cell (i := 3) rfl
    have b0 := B2.cell (i := 0) rfl
    have b1 := B2.cell (i := 1) rfl
    have b2 := B2.cell (i := 2) rfl
    have b3 := B2.cell (i := 3) rfl
    go_upto_region 1 with fail
    rw [← hw1]
    clear hw1 B1 B2
    go_wp2_with fail
    go_ret
    exact ⟨by rw [HR.out]; rfl, HK1.out⟩
  have h0 := Decidable.of_not_not h0
  have i1 : (xn.toList == yn.toList) = true := by rw [txt_eq]; exact decide_eq_true h0
  have G0 := Lib.hid h0
  clear h0
  by_cases h1 : xd ≠ yd
  · have HR := Lib.hid (HF.out fun e => h1 (congrArg EntR.d e))
    have j1 : (xd == yd) = false := (bool_ne h1).1
    have j2 : decide (xd = yd) = false := decide_eq_false h1
    clear h1
    go_enter Tryd.func62, Tryd.ntmps62
    obtain ⟨w1, hw1⟩ : ∃ w1, w1 = (w.alloc (.cells #[.string xn, .bool xd, .int .i64 xz, .slice pc xc.length qc] 33)).alloc (.cells #[.string yn, .bool yd, .int .i64 yz, .slice pe yc.length qe] 33) := ⟨_, rfl⟩
    have B1 : BlkAt w1 w.heap.size 33 #[.string xn, .bool xd, .int .i64 xz, .slice pc xc.length qc] := by rw [hw1]; exact (BlkAt.new w _ _).keeps (kal _ _)
    have B2 : BlkAt w1 (w.heap.size + 1) 33 #[.string yn, .bool yd, .int .i64 yz, .slice pe yc.length qe] := by rw [hw1]; exact heap_alloc_last1 w _ _
    have HK1 : Hid (Keeps w w1) := by rw [hw1]; exact (kal _ _).trans (kal _ _)
    have a0 := B1.cell (i := 0) rfl
    have a1 := B1.cell (i := 1) rfl
    have a2 := B1.cell (i := 2) rfl
    have a3 := B1.cell (i := 3) rfl
    have b0 := B2.cell (i := 0) rfl
    have b1 := B2.cell (i := 1) rfl
    have b2 := B2.cell (i := 2) rfl
    have b3 := B2.cell (i := 3) rfl
    go_upto_region 1 with fail
    rw [← hw1]
    clear hw1 B1 B2
    go_wp2_with fail
    go_ret
    exact ⟨by rw [HR.out]; rfl, HK1.out⟩
  have h1 := Decidable.of_not_not h1
  have j1 : (xd == yd) = true := beq_iff_eq.2 h1
  have j2 : decide (xd = yd) = true := decide_eq_true h1
  have G1 := Lib.hid h1
  clear h1
  by_cases h2 : xz ≠ yz
  · have HR := Lib.hid (HF.out fun e => h2 (congrArg EntR.z e))
    have k1 : (xz == yz) = false := beq_false_of_ne h2
    have k2 : decide (xz = yz) = false := decide_eq_false h2
    clear h2
    go_enter Tryd.func62, Tryd.ntmps62
    obtain ⟨w1, hw1⟩ : ∃ w1, w1 = (w.alloc (.cells #[.string xn, .bool xd, .int .i64 xz, .slice pc xc.length qc] 33)).alloc (.cells #[.string yn, .bool yd, .int .i64 yz, .slice pe yc.length qe] 33) := ⟨_, rfl⟩
    have B1 : BlkAt w1 w.heap.size 33 #[.string xn, .bool xd, .int .i64 xz, .slice pc xc.length qc] := by rw [hw1]; exact (BlkAt.new w _ _).keeps (kal _ _)
    have B2 : BlkAt w1 (w.heap.size + 1) 33 #[.string yn, .bool yd, .int .i64 yz, .slice pe yc.length qe] := by rw [hw1]; exact heap_alloc_last1 w _ _
    have HK1 : Hid (Keeps w w1) := by rw [hw1]; exact (kal _ _).trans (kal _ _)
    have a0 := B1.cell (i := 0) rfl
    have a1 := B1.cell (i := 1) rfl
    have a2 := B1.cell (i := 2) rfl
    have a3 := B1.cell (i := 3) rfl
    have b0 := B2.cell (i := 0) rfl
    have b1 := B2.cell (i := 1) rfl
    have b2 := B2.cell (i := 2) rfl
    have b3 := B2.cell (i := 3) rfl
    go_upto_region 1 with fail
    rw [← hw1]
    clear hw1 B1 B2
    go_wp2_with fail
    go_ret
    exact ⟨by rw [HR.out]; rfl, HK1.out⟩
  have h2 := Decidable.of_not_not h2
  have k1 : (xz == yz) = true := beq_iff_eq.2 h2
  have k2 : decide (xz = yz) = true := decide_eq_true h2
  have G2 := Lib.hid h2
  clear h2
  have HR := Lib.hid (HQ.out G0.out G1.out G2.out)
  clear HF HQ G0 G1 G2
  go_enter Tryd.func62, Tryd.ntmps62
  obtain ⟨w1, hw1⟩ : ∃ w1, w1 = (w.alloc (.cells #[.string xn, .bool xd, .int .i64 xz, .slice pc xc.length qc] 33)).alloc (.cells #[.string yn, .bool yd, .int .i64 yz, .slice pe yc.length qe] 33) := ⟨_, rfl⟩
  have B1 : BlkAt w1 w.heap.size 33 #[.string xn, .bool xd, .int .i64 xz, .slice pc xc.length qc] := by rw [hw1]; exact (BlkAt.new w _ _).keeps (kal _ _)
  have B2 : BlkAt w1 (w.heap.size + 1) 33 #[.string yn, .bool yd, .int .i64 yz, .slice pe yc.length qe] := by rw [hw1]; exact heap_alloc_last1 w _ _
  have HK1 : Hid (Keeps w w1) := by rw [hw1]; exact (kal _ _).trans (kal _ _)
  have a0 := B1.cell (i := 0) rfl
  have a1 := B1.cell (i := 1) rfl
  have a2 := B1.cell (i := 2) rfl
  have a3 := B1.cell (i := 3) rfl
  have b0 := B2.cell (i := 0) rfl
  have b1 := B2.cell (i := 1) rfl
  have b2 := B2.cell (i := 2) rfl
  have b3 := B2.cell (i := 3) rfl
  go_upto_region 1 with fail
  rw [← hw1]
  clear hw1 B1 B2
  go_wp2_with fail
  refine Calls.mono (eqtexts_any _ _ _ _ xc yc _ (SeqAt.keeps H.out HK1.out) (SeqAt.keeps HM.out HK1.out)) ?_
  rintro e w2 ⟨rfl, hk2⟩
  generalize decide (xc = yc) = s at *
  go_wp2_with fail
  go_ret
  exact ⟨by rw [HR.out]; rfl, HK1.out.trans hk2⟩
theorem enters_same1 (xs : Array Value) (w : World) : (callFunc 62 xs).run Tryd.prog w = .ok (.enter 62 xs) w := enters_bodyE Tryd.func62 (by kernel_rfl) rfl xs w
set_option maxRecDepth 100000 in
set_option maxHeartbeats 8000000 in
theorem equalf_any (v u : Value) (l m : List EntR) (w : World) (h : EntsAt w.heap v l) (hm : EntsAt w.heap u m) : Calls Tryd.prog 61 #[v, u, .func (.func 62) #[] #[]] w fun e w' => e = .returned (.bool (sameE l m)) ∧ Keeps w w' := by
  obtain ⟨p, q, rfl⟩ := rec_shape h
  obtain ⟨p2, q2, rfl⟩ := rec_shape hm
  have hl63 : l.length ≤ 9223372036854775807 := let ⟨_, _, _, x, _⟩ := h; x
  have hm63 : m.length ≤ 9223372036854775807 := let ⟨_, _, _, x, _⟩ := hm; x
  have H := Lib.hid h
  have HM := Lib.hid hm
  clear h hm
  have HCF := enters_same1
  by_cases he : l.length = m.length
  · have g1 : ((l.length : Int) == (m.length : Int)) = true := by rw [beq_iff_eq]; omega
    have g2 : decide ((l.length : Int) = (m.length : Int)) = true := decide_eq_true (by omega)
    have g3 : (l.length == m.length) = true := by rw [beq_iff_eq]; exact he
    have HE := Lib.hid he
    clear he
    go_enter Tryd.func61, Tryd.ntmps61
    go_wp2_with fail
    clear g1 g2 g3
    generalize ((l.length : Int) != (m.length : Int)) = bb
    go_loopw [17] (fun i wr => ∃ k : Nat, k ≤ l.length ∧ i = .int .i64 k ∧ Hid (∀ j, j < k → eAt l j = eAt m j) ∧ Hid (Keeps w wr)) (fun i _ => l.length - (intOf i).toNat)
    case atStart => exact ⟨0, by omega, rfl, fun j h => absurd h (by omega), keeps_refl _⟩
    case round =>
      obtain ⟨k, hk, rfl, hN, hK⟩ := hrel
      by_cases hlt : k < l.length
      · have hlt64 : (k : Int) < (l.length : Int) := by omega
        have hk0 : (0 : Int) ≤ (k : Int) := by omega
        have hlt65 : (k : Int) < (m.length : Int) := by have := HE.out; omega
        obtain ⟨b1, o1, pc, qc, rfl, _, a0, a1, a2, a3, ht, _⟩ := ent_cell (EntsAt.keeps H.out hK.out) hlt
        obtain ⟨b2, o2, pe, qe, rfl, _, c0, c1, c2, c3, ht2, _⟩ := ent_cell (EntsAt.keeps HM.out hK.out) (i := k) (by have := HE.out; omega)
        have HN2 : Hid (eAt l k = eAt m k → ∀ j, j < k + 1 → eAt l j = eAt m j) := fun e j hj => by
          by_cases e2 : j = k
          · subst e2; exact e
          · exact hN.out j (by omega)
        have HF : Hid (eAt l k ≠ eAt m k → sameE l m = false) := fun e => decide_eq_false fun e2 => e (by rw [e2])
        generalize eAt l k = X at *
        generalize eAt m k = Y at *
        obtain ⟨xn, xd, xz, xc⟩ := X
        obtain ⟨yn, yd, yz, yc⟩ := Y
        dsimp only at a0 a1 a2 a3 c0 c1 c2 c3 ht ht2
        have HTX := Lib.hid ht
        have HTY := Lib.hid ht2
        have HX := Lib.hid (entA_one xn xd xz pc xc.length qc)
        have HY := Lib.hid (entA_one yn yd yz pe yc.length qe)
        clear ht ht2
        go_upto_region 6 with (refine wpList_store_row rfl 33 (.tmp 8) (.tmp 21) rfl wr.heap.size #[.string xn, .bool xd, .int .i64 xz, .slice pc xc.length qc] rfl rfl 33 _ (heap_alloc_last wr _) (by kernel_rfl) rfl HX.out ?_; rw [World.setRow_alloc_new])
        have d0 := keeps_cell (kal wr (.cells #[.string xn, .bool xd, .int .i64 xz, .slice pc xc.length qc] 33)) c0
        have d1 := keeps_cell (kal wr (.cells #[.string xn, .bool xd, .int .i64 xz, .slice pc xc.length qc] 33)) c1
        have d2 := keeps_cell (kal wr (.cells #[.string xn, .bool xd, .int .i64 xz, .slice pc xc.length qc] 33)) c2
        have d3 := keeps_cell (kal wr (.cells #[.string xn, .bool xd, .int .i64 xz, .slice pc xc.length qc] 33)) c3
        clear a0 a1 a2 a3 c0 c1 c2 c3
        have B1 : Hid (BlkAt (wr.alloc (.cells #[.string xn, .bool xd, .int .i64 xz, .slice pc xc.length qc] 33)) wr.heap.size 33 #[.string xn, .bool xd, .int .i64 xz, .slice pc xc.length qc]) := BlkAt.new wr _ _
        have HZ1 : Hid (wr.heap.size < (wr.alloc (.cells #[.string xn, .bool xd, .int .i64 xz, .slice pc xc.length qc] 33)).heap.size) := by show _ < _; rw [World.size_alloc]; omega
        have HK1 : Hid (Keeps w (wr.alloc (.cells #[.string xn, .bool xd, .int .i64 xz, .slice pc xc.length qc] 33))) := hK.out.trans (kal _ _)
        have HT1 := Lib.hid (SeqAt.keeps HTX.out (kal wr (.cells #[.string xn, .bool xd, .int .i64 xz, .slice pc xc.length qc] 33)))
        have HT2 := Lib.hid (SeqAt.keeps HTY.out (kal wr (.cells #[.string xn, .bool xd, .int .i64 xz, .slice pc xc.length qc] 33)))
        clear HTX HTY hK
        generalize wr.alloc (.cells #[.string xn, .bool xd, .int .i64 xz, .slice pc xc.length qc] 33) = w1 at *
        generalize wr.heap.size = N1 at *
        go_upto_region 7 with (refine wpList_store_row rfl 33 (.tmp 9) (.tmp 25) rfl w1.heap.size #[.string yn, .bool yd, .int .i64 yz, .slice pe yc.length qe] rfl rfl 33 _ (heap_alloc_last w1 _) (by kernel_rfl) rfl HY.out ?_; rw [World.setRow_alloc_new])
        clear d0 d1 d2 d3
        have B2 := Lib.hid (B1.out.keeps (kal w1 (.cells #[.string yn, .bool yd, .int .i64 yz, .slice pe yc.length qe] 33)))
        have B3 : Hid (BlkAt (w1.alloc (.cells #[.string yn, .bool yd, .int .i64 yz, .slice pe yc.length qe] 33)) w1.heap.size 33 #[.string yn, .bool yd, .int .i64 yz, .slice pe yc.length qe]) := BlkAt.new w1 _ _
        have HK2 : Hid (Keeps w (w1.alloc (.cells #[.string yn, .bool yd, .int .i64 yz, .slice pe yc.length qe] 33))) := HK1.out.trans (kal _ _)
        have HTX := Lib.hid (SeqAt.keeps HT1.out (kal w1 (.cells #[.string yn, .bool yd, .int .i64 yz, .slice pe yc.length qe] 33)))
        have HTY := Lib.hid (SeqAt.keeps HT2.out (kal w1 (.cells #[.string yn, .bool yd, .int .i64 yz, .slice pe yc.length qe] 33)))
        clear B1 HK1 HT1 HT2 HZ1
        generalize w1.alloc (.cells #[.string yn, .bool yd, .int .i64 yz, .slice pe yc.length qe] 33) = w2 at *
        generalize w1.heap.size = N2 at *
        go_wp2_with (first | (refine wpList_load_row rfl 33 (.tmp 8) rfl N1 rfl 33 _ (0, 0) _ B2.out Tryd.underlying33 rfl (by kernel_rfl) ?_) | (refine wpList_load_row rfl 33 (.tmp 9) rfl N2 rfl 33 _ (0, 0) _ B3.out Tryd.underlying33 rfl (by kernel_rfl) ?_))
        refine Calls.mono (same1_any xn yn xd yd xz yz xc yc pc pe qc qe _ HTX.out HTY.out) ?_
        rintro e w3 ⟨rfl, hk3⟩
        have HK3 := Lib.hid (HK2.out.trans hk3)
        clear hk3
        by_cases hxy : (⟨xn, xd, xz, xc⟩ : EntR) = ⟨yn, yd, yz, yc⟩
        · have HN3 := Lib.hid (HN2.out hxy)
          rw [decide_eq_true hxy]
          clear hxy
          go_wp2_with fail
          refine ⟨?_, by simp [intOf]; omega⟩
          first | exact ⟨k + 1, by omega, by go_num, HN3, HK3⟩ | ((repeat apply Exists.intro); exact ⟨⟨k + 1, by omega, by go_num, HN3, HK3⟩, rfl⟩)
        · have HF2 := Lib.hid (HF.out hxy)
          rw [decide_eq_false hxy]
          clear hxy
          go_wp2_with fail
          go_ret
          exact ⟨by rw [HF2.out]; rfl, HK3.out⟩
      · obtain rfl : k = l.length := by omega
        have HT : Hid (sameE l m = true) := decide_eq_true (ents_ext HE.out hN.out)
        go_wp2_with fail
        go_ret
        exact ⟨by rw [HT.out]; rfl, hK.out⟩
  · have HS : Hid (sameE l m = false) := decide_eq_false fun e => he (by rw [e])
    have g1 : ((l.length : Int) == (m.length : Int)) = false := beq_false_of_ne (by omega)
    have g2 : decide ((l.length : Int) = (m.length : Int)) = false := decide_eq_false (by omega)
    have g3 : (l.length == m.length) = false := beq_false_of_ne he
    clear he
    go_enter Tryd.func61, Tryd.ntmps61
    go_wp2_with fail
    go_ret
    exact ⟨by rw [HS.out]; rfl, keeps_refl _⟩
set_option maxRecDepth 100000 in
set_option maxHeartbeats 4000000 in
theorem nsame_any (v u : Value) (l m : List EntR) (w : World) (h : EntsAt w.heap v l) (hm : EntsAt w.heap u m) : Calls Tryd.prog 34 #[v, u] w fun e w' => e = .returned (.bool (sameE l m)) ∧ Keeps w w' := by
  obtain ⟨p, q, rfl⟩ := rec_shape h
  obtain ⟨p2, q2, rfl⟩ := rec_shape hm
  go_enter Tryd.func34, Tryd.ntmps34
  go_wp2_with fail
  refine Calls.mono (equalf_any _ _ l m _ h hm) ?_
  rintro e w' ⟨rfl, hk⟩
  go_wp2_with fail
  go_ret
  exact ⟨rfl, hk⟩
end Go.Proofs.YtdpfanifagfciaaDoor
