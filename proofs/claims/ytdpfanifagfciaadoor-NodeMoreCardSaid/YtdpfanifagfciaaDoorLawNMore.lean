/- The walk of the law NodeMore. Printed by gennmore.py. -/
import Derived.Test.YtdpfanifagfciaaDoorNodeM
import Derived.Test.YtdpfanifagfciaaDoorLineG
namespace Go.Proofs.YtdpfanifagfciaaDoor
open Go.RowKit
attribute [local go_sem ↓] Go.wp_at_zero Go.wp_at_succ
theorem ents_push {w w' : World} {N : Nat} {T : TypeId} {v' : Value} {us : List (List Value)} {l : List EntR} {x : EntR} {cv : Value} {us1 : List Value} (h1 : us.length = l.length) (h3 : ∀ i (h : i < us.length) (h' : i < l.length), us[i].length = 4 ∧ IsEnt w.heap us[i] l[i]) (ho : w'.ownsRow N T 4 v' (l.length + 1) (us.flatten ++ us1)) (hk : Keeps w w') (hu : us1 = [.string x.n, .bool x.d, .int .i64 x.z, cv]) (ht : SeqAt IsText w.heap cv x.c) (hq : ∀ a n q, cv = .slice a n q → n ≤ q) (hb : l.length + 1 ≤ 9223372036854775807) : EntsAt w'.heap v' (l ++ [x]) := by
  have e : (us ++ [us1]).flatten = us.flatten ++ us1 := by simp
  rw [← e] at ho
  refine ents_own (w := w) ho (by simp [h1]) (by simp [h1]) (fun i h h' => ?_) hk (by simpa using hb)
  by_cases hi : i < l.length
  · rw [List.getElem_append_left (by omega), List.getElem_append_left hi]
    exact h3 i (by omega) hi
  · have e1 : i = l.length := by simp at h'; omega
    subst e1
    rw [List.getElem_append_right (by omega), List.getElem_append_right (by omega)]
    simp only [h1, Nat.sub_self, List.getElem_cons_zero]
    subst hu
    exact ⟨rfl, cv, rfl, ht, hq⟩
def nmo4Z (p : Option Addr) (nn q F b1 o1 kp : Nat) (xn Pn : ByteArray) : Nat → Value → Prop
  | i, v => v = ([.slice p nn q, .int .i64 (nn : Int), .bool true, .bool true, undef, undef, undef, undef, undef, undef, undef, undef, undef, undef, .bool true, .bool true] : List Value).getD i undef
def nmo4T (p : Option Addr) (nn q F b1 o1 kp : Nat) (xn Pn : ByteArray) : Nat → Value → Prop
  | i, v => v = ([.slice (some ⟨b1, o1, none⟩) nn q, .int .i64 (nn : Int), .bool false, .bool false, .slice (some ⟨b1, o1, none⟩) nn q, .slice (some ⟨b1, o1, none⟩) nn q, .int .i64 (nn : Int), .int .i64 (kp : Int), .pointer (some ⟨b1, o1 + kp * 4, none⟩), .pointer (some ⟨b1, o1 + kp * 4, none⟩), .string Pn, .pointer (some ⟨F, 0, none⟩), .string xn, .bool true, .bool true, .bool true] : List Value).getD i undef
def nmo4F (p : Option Addr) (nn q F b1 o1 kp : Nat) (xn Pn : ByteArray) : Nat → Value → Prop
  | i, v => v = ([.slice (some ⟨b1, o1, none⟩) nn q, .int .i64 (nn : Int), .bool false, .bool false, .slice (some ⟨b1, o1, none⟩) nn q, .slice (some ⟨b1, o1, none⟩) nn q, .int .i64 (nn : Int), .int .i64 (kp : Int), .pointer (some ⟨b1, o1 + kp * 4, none⟩), .pointer (some ⟨b1, o1 + kp * 4, none⟩), .string Pn, .pointer (some ⟨F, 0, none⟩), .string xn, .bool false, .bool false, .bool false] : List Value).getD i undef
def nmo5ftt (p : Option Addr) (nn q F N xm qc : Nat) (pc : Option Addr) (xn : ByteArray) (xd : Bool) (xz : Int) (FL : List Value) (LX : List EntR) : Nat → Value → World → Prop
  | 0, v, w => ∃ g, v = .slice (some ⟨g, 0, none⟩) 0 0 ∧ w.ownsRow N 40 4 v 0 []
  | 2, v, w => w.ownsRow N 40 4 v nn FL
  | 4, v, w => ∃ b, v = .slice (some ⟨b, 0, none⟩) 1 1 ∧ BlkAt w b 40 #[.string xn, .bool xd, .int .i64 xz, .slice pc xm qc]
  | 5, v, w => EntsAt w.heap v LX
  | 6, v, w => EntsAt w.heap v LX
  | i, v, _ => v = ([undef, .slice p nn q, undef, .agg #[.string xn, .bool xd, .int .i64 xz, .slice pc xm qc], undef, undef, undef, .bool false, .bool false, .bool false, undef, .bool false, .bool false, undef, undef, undef, .bool false, .bool true, .bool true] : List Value).getD i undef
theorem nmo5ftt_kp {p : Option Addr} {nn q F N xm qc : Nat} {pc : Option Addr} {xn : ByteArray} {xd : Bool} {xz : Int} {FL : List Value} {LX : List EntR} (i : Nat) (v : Value) (w w' : World) (c : Keeps w w') (h : nmo5ftt p nn q F N xm qc pc xn xd xz FL LX i v w) : nmo5ftt p nn q F N xm qc pc xn xd xz FL LX i v w' := by
  match i, h with
  | 0, h => exact (let ⟨g, r, ow⟩ := h; ⟨g, r, owns_chgK (T := fun _ => False) ow (Kept.any c) fun _ _ x => x⟩)
  | 1, h => exact h
  | 2, h => exact owns_chgK (T := fun _ => False) h (Kept.any c) fun _ _ x => x
  | 3, h => exact h
  | 4, h => exact (let ⟨b, r, hb⟩ := h; ⟨b, r, hb.keeps c⟩)
  | 5, h => exact EntsAt.keeps h c
  | 6, h => exact EntsAt.keeps h c
  | 7, h => exact h
  | 8, h => exact h
  | 9, h => exact h
  | 10, h => exact h
  | 11, h => exact h
  | 12, h => exact h
  | 13, h => exact h
  | 14, h => exact h
  | 15, h => exact h
  | 16, h => exact h
  | 17, h => exact h
  | 18, h => exact h
  | _ + 19, h => exact h
theorem nmo5ftt_sp {p : Option Addr} {nn q F N xm qc : Nat} {pc : Option Addr} {xn : ByteArray} {xd : Bool} {xz : Int} {FL : List Value} {LX : List EntR} (i : Nat) (v : Value) (w w' : World) (h1 : ([0, 2, 4] : List Nat).contains i = false) (h2 : i ≠ 5) (h3 : i ≠ 6) (h : nmo5ftt p nn q F N xm qc pc xn xd xz FL LX i v w) : nmo5ftt p nn q F N xm qc pc xn xd xz FL LX i v w' := by
  match i, h1, h2, h3, h with
  | 0, h1, h2, h3, h => exact absurd h1 (by decide)
  | 1, h1, h2, h3, h => exact h
  | 2, h1, h2, h3, h => exact absurd h1 (by decide)
  | 3, h1, h2, h3, h => exact h
  | 4, h1, h2, h3, h => exact absurd h1 (by decide)
  | 5, h1, h2, h3, h => exact absurd rfl h2
  | 6, h1, h2, h3, h => exact absurd rfl h3
  | 7, h1, h2, h3, h => exact h
  | 8, h1, h2, h3, h => exact h
  | 9, h1, h2, h3, h => exact h
  | 10, h1, h2, h3, h => exact h
  | 11, h1, h2, h3, h => exact h
  | 12, h1, h2, h3, h => exact h
  | 13, h1, h2, h3, h => exact h
  | 14, h1, h2, h3, h => exact h
  | 15, h1, h2, h3, h => exact h
  | 16, h1, h2, h3, h => exact h
  | 17, h1, h2, h3, h => exact h
  | 18, h1, h2, h3, h => exact h
  | _ + 19, _, _, _, h => exact h
def nmo5ttt (p : Option Addr) (nn q F N xm qc : Nat) (pc : Option Addr) (xn : ByteArray) (xd : Bool) (xz : Int) (FL : List Value) (LX : List EntR) : Nat → Value → World → Prop
  | 0, v, w => ∃ g, v = .slice (some ⟨g, 0, none⟩) 0 0 ∧ w.ownsRow N 40 4 v 0 []
  | 2, v, w => w.ownsRow N 40 4 v nn FL
  | 4, v, w => ∃ b, v = .slice (some ⟨b, 0, none⟩) 1 1 ∧ BlkAt w b 40 #[.string xn, .bool xd, .int .i64 xz, .slice pc xm qc]
  | 5, v, w => EntsAt w.heap v LX
  | 6, v, w => EntsAt w.heap v LX
  | i, v, _ => v = ([undef, .slice p nn q, undef, .agg #[.string xn, .bool xd, .int .i64 xz, .slice pc xm qc], undef, undef, undef, .bool true, .bool true, .bool true, .bool true, .bool true, .bool true, .slice p nn q, .int .i64 (nn : Int), .bool true, .bool true, .bool true, .bool true] : List Value).getD i undef
theorem nmo5ttt_kp {p : Option Addr} {nn q F N xm qc : Nat} {pc : Option Addr} {xn : ByteArray} {xd : Bool} {xz : Int} {FL : List Value} {LX : List EntR} (i : Nat) (v : Value) (w w' : World) (c : Keeps w w') (h : nmo5ttt p nn q F N xm qc pc xn xd xz FL LX i v w) : nmo5ttt p nn q F N xm qc pc xn xd xz FL LX i v w' := by
  match i, h with
  | 0, h => exact (let ⟨g, r, ow⟩ := h; ⟨g, r, owns_chgK (T := fun _ => False) ow (Kept.any c) fun _ _ x => x⟩)
  | 1, h => exact h
  | 2, h => exact owns_chgK (T := fun _ => False) h (Kept.any c) fun _ _ x => x
  | 3, h => exact h
  | 4, h => exact (let ⟨b, r, hb⟩ := h; ⟨b, r, hb.keeps c⟩)
  | 5, h => exact EntsAt.keeps h c
  | 6, h => exact EntsAt.keeps h c
  | 7, h => exact h
  | 8, h => exact h
  | 9, h => exact h
  | 10, h => exact h
  | 11, h => exact h
  | 12, h => exact h
  | 13, h => exact h
  | 14, h => exact h
  | 15, h => exact h
  | 16, h => exact h
  | 17, h => exact h
  | 18, h => exact h
  | _ + 19, h => exact h
theorem nmo5ttt_sp {p : Option Addr} {nn q F N xm qc : Nat} {pc : Option Addr} {xn : ByteArray} {xd : Bool} {xz : Int} {FL : List Value} {LX : List EntR} (i : Nat) (v : Value) (w w' : World) (h1 : ([0, 2, 4] : List Nat).contains i = false) (h2 : i ≠ 5) (h3 : i ≠ 6) (h : nmo5ttt p nn q F N xm qc pc xn xd xz FL LX i v w) : nmo5ttt p nn q F N xm qc pc xn xd xz FL LX i v w' := by
  match i, h1, h2, h3, h with
  | 0, h1, h2, h3, h => exact absurd h1 (by decide)
  | 1, h1, h2, h3, h => exact h
  | 2, h1, h2, h3, h => exact absurd h1 (by decide)
  | 3, h1, h2, h3, h => exact h
  | 4, h1, h2, h3, h => exact absurd h1 (by decide)
  | 5, h1, h2, h3, h => exact absurd rfl h2
  | 6, h1, h2, h3, h => exact absurd rfl h3
  | 7, h1, h2, h3, h => exact h
  | 8, h1, h2, h3, h => exact h
  | 9, h1, h2, h3, h => exact h
  | 10, h1, h2, h3, h => exact h
  | 11, h1, h2, h3, h => exact h
  | 12, h1, h2, h3, h => exact h
  | 13, h1, h2, h3, h => exact h
  | 14, h1, h2, h3, h => exact h
  | 15, h1, h2, h3, h => exact h
  | 16, h1, h2, h3, h => exact h
  | 17, h1, h2, h3, h => exact h
  | 18, h1, h2, h3, h => exact h
  | _ + 19, _, _, _, h => exact h
def nmo5ttf (p : Option Addr) (nn q F N xm qc : Nat) (pc : Option Addr) (xn : ByteArray) (xd : Bool) (xz : Int) (FL : List Value) (LX : List EntR) : Nat → Value → World → Prop
  | 0, v, w => ∃ g, v = .slice (some ⟨g, 0, none⟩) 0 0 ∧ w.ownsRow N 40 4 v 0 []
  | 2, v, w => w.ownsRow N 40 4 v nn FL
  | 4, v, w => ∃ b, v = .slice (some ⟨b, 0, none⟩) 1 1 ∧ BlkAt w b 40 #[.string xn, .bool xd, .int .i64 xz, .slice pc xm qc]
  | 5, v, w => EntsAt w.heap v LX
  | 6, v, w => EntsAt w.heap v LX
  | i, v, _ => v = ([undef, .slice p nn q, undef, .agg #[.string xn, .bool xd, .int .i64 xz, .slice pc xm qc], undef, undef, undef, .bool false, .bool true, .bool true, .bool true, .bool true, .bool true, .slice p nn q, .int .i64 (nn : Int), .bool false, .bool false, .bool true, .bool true] : List Value).getD i undef
theorem nmo5ttf_kp {p : Option Addr} {nn q F N xm qc : Nat} {pc : Option Addr} {xn : ByteArray} {xd : Bool} {xz : Int} {FL : List Value} {LX : List EntR} (i : Nat) (v : Value) (w w' : World) (c : Keeps w w') (h : nmo5ttf p nn q F N xm qc pc xn xd xz FL LX i v w) : nmo5ttf p nn q F N xm qc pc xn xd xz FL LX i v w' := by
  match i, h with
  | 0, h => exact (let ⟨g, r, ow⟩ := h; ⟨g, r, owns_chgK (T := fun _ => False) ow (Kept.any c) fun _ _ x => x⟩)
  | 1, h => exact h
  | 2, h => exact owns_chgK (T := fun _ => False) h (Kept.any c) fun _ _ x => x
  | 3, h => exact h
  | 4, h => exact (let ⟨b, r, hb⟩ := h; ⟨b, r, hb.keeps c⟩)
  | 5, h => exact EntsAt.keeps h c
  | 6, h => exact EntsAt.keeps h c
  | 7, h => exact h
  | 8, h => exact h
  | 9, h => exact h
  | 10, h => exact h
  | 11, h => exact h
  | 12, h => exact h
  | 13, h => exact h
  | 14, h => exact h
  | 15, h => exact h
  | 16, h => exact h
  | 17, h => exact h
  | 18, h => exact h
  | _ + 19, h => exact h
theorem nmo5ttf_sp {p : Option Addr} {nn q F N xm qc : Nat} {pc : Option Addr} {xn : ByteArray} {xd : Bool} {xz : Int} {FL : List Value} {LX : List EntR} (i : Nat) (v : Value) (w w' : World) (h1 : ([0, 2, 4] : List Nat).contains i = false) (h2 : i ≠ 5) (h3 : i ≠ 6) (h : nmo5ttf p nn q F N xm qc pc xn xd xz FL LX i v w) : nmo5ttf p nn q F N xm qc pc xn xd xz FL LX i v w' := by
  match i, h1, h2, h3, h with
  | 0, h1, h2, h3, h => exact absurd h1 (by decide)
  | 1, h1, h2, h3, h => exact h
  | 2, h1, h2, h3, h => exact absurd h1 (by decide)
  | 3, h1, h2, h3, h => exact h
  | 4, h1, h2, h3, h => exact absurd h1 (by decide)
  | 5, h1, h2, h3, h => exact absurd rfl h2
  | 6, h1, h2, h3, h => exact absurd rfl h3
  | 7, h1, h2, h3, h => exact h
  | 8, h1, h2, h3, h => exact h
  | 9, h1, h2, h3, h => exact h
  | 10, h1, h2, h3, h => exact h
  | 11, h1, h2, h3, h => exact h
  | 12, h1, h2, h3, h => exact h
  | 13, h1, h2, h3, h => exact h
  | 14, h1, h2, h3, h => exact h
  | 15, h1, h2, h3, h => exact h
  | 16, h1, h2, h3, h => exact h
  | 17, h1, h2, h3, h => exact h
  | 18, h1, h2, h3, h => exact h
  | _ + 19, _, _, _, h => exact h
def nmo5fft (p : Option Addr) (nn q F N xm qc : Nat) (pc : Option Addr) (xn : ByteArray) (xd : Bool) (xz : Int) (FL : List Value) (LX : List EntR) : Nat → Value → World → Prop
  | 0, v, w => ∃ g, v = .slice (some ⟨g, 0, none⟩) 0 0 ∧ w.ownsRow N 40 4 v 0 []
  | 2, v, w => w.ownsRow N 40 4 v nn FL
  | 4, v, w => ∃ b, v = .slice (some ⟨b, 0, none⟩) 1 1 ∧ BlkAt w b 40 #[.string xn, .bool xd, .int .i64 xz, .slice pc xm qc]
  | 5, v, w => EntsAt w.heap v LX
  | 6, v, w => EntsAt w.heap v LX
  | i, v, _ => v = ([undef, .slice p nn q, undef, .agg #[.string xn, .bool xd, .int .i64 xz, .slice pc xm qc], undef, undef, undef, .bool false, .bool false, .bool false, undef, .bool false, .bool false, undef, undef, undef, .bool false, .bool true, .bool true] : List Value).getD i undef
theorem nmo5fft_kp {p : Option Addr} {nn q F N xm qc : Nat} {pc : Option Addr} {xn : ByteArray} {xd : Bool} {xz : Int} {FL : List Value} {LX : List EntR} (i : Nat) (v : Value) (w w' : World) (c : Keeps w w') (h : nmo5fft p nn q F N xm qc pc xn xd xz FL LX i v w) : nmo5fft p nn q F N xm qc pc xn xd xz FL LX i v w' := by
  match i, h with
  | 0, h => exact (let ⟨g, r, ow⟩ := h; ⟨g, r, owns_chgK (T := fun _ => False) ow (Kept.any c) fun _ _ x => x⟩)
  | 1, h => exact h
  | 2, h => exact owns_chgK (T := fun _ => False) h (Kept.any c) fun _ _ x => x
  | 3, h => exact h
  | 4, h => exact (let ⟨b, r, hb⟩ := h; ⟨b, r, hb.keeps c⟩)
  | 5, h => exact EntsAt.keeps h c
  | 6, h => exact EntsAt.keeps h c
  | 7, h => exact h
  | 8, h => exact h
  | 9, h => exact h
  | 10, h => exact h
  | 11, h => exact h
  | 12, h => exact h
  | 13, h => exact h
  | 14, h => exact h
  | 15, h => exact h
  | 16, h => exact h
  | 17, h => exact h
  | 18, h => exact h
  | _ + 19, h => exact h
theorem nmo5fft_sp {p : Option Addr} {nn q F N xm qc : Nat} {pc : Option Addr} {xn : ByteArray} {xd : Bool} {xz : Int} {FL : List Value} {LX : List EntR} (i : Nat) (v : Value) (w w' : World) (h1 : ([0, 2, 4] : List Nat).contains i = false) (h2 : i ≠ 5) (h3 : i ≠ 6) (h : nmo5fft p nn q F N xm qc pc xn xd xz FL LX i v w) : nmo5fft p nn q F N xm qc pc xn xd xz FL LX i v w' := by
  match i, h1, h2, h3, h with
  | 0, h1, h2, h3, h => exact absurd h1 (by decide)
  | 1, h1, h2, h3, h => exact h
  | 2, h1, h2, h3, h => exact absurd h1 (by decide)
  | 3, h1, h2, h3, h => exact h
  | 4, h1, h2, h3, h => exact absurd h1 (by decide)
  | 5, h1, h2, h3, h => exact absurd rfl h2
  | 6, h1, h2, h3, h => exact absurd rfl h3
  | 7, h1, h2, h3, h => exact h
  | 8, h1, h2, h3, h => exact h
  | 9, h1, h2, h3, h => exact h
  | 10, h1, h2, h3, h => exact h
  | 11, h1, h2, h3, h => exact h
  | 12, h1, h2, h3, h => exact h
  | 13, h1, h2, h3, h => exact h
  | 14, h1, h2, h3, h => exact h
  | 15, h1, h2, h3, h => exact h
  | 16, h1, h2, h3, h => exact h
  | 17, h1, h2, h3, h => exact h
  | 18, h1, h2, h3, h => exact h
  | _ + 19, _, _, _, h => exact h
def nmo5tft (p : Option Addr) (nn q F N xm qc : Nat) (pc : Option Addr) (xn : ByteArray) (xd : Bool) (xz : Int) (FL : List Value) (LX : List EntR) : Nat → Value → World → Prop
  | 0, v, w => ∃ g, v = .slice (some ⟨g, 0, none⟩) 0 0 ∧ w.ownsRow N 40 4 v 0 []
  | 2, v, w => w.ownsRow N 40 4 v nn FL
  | 4, v, w => ∃ b, v = .slice (some ⟨b, 0, none⟩) 1 1 ∧ BlkAt w b 40 #[.string xn, .bool xd, .int .i64 xz, .slice pc xm qc]
  | 5, v, w => EntsAt w.heap v LX
  | 6, v, w => EntsAt w.heap v LX
  | i, v, _ => v = ([undef, .slice p nn q, undef, .agg #[.string xn, .bool xd, .int .i64 xz, .slice pc xm qc], undef, undef, undef, .bool false, .bool true, .bool true, .bool false, .bool false, .bool false, undef, undef, undef, .bool false, .bool true, .bool true] : List Value).getD i undef
theorem nmo5tft_kp {p : Option Addr} {nn q F N xm qc : Nat} {pc : Option Addr} {xn : ByteArray} {xd : Bool} {xz : Int} {FL : List Value} {LX : List EntR} (i : Nat) (v : Value) (w w' : World) (c : Keeps w w') (h : nmo5tft p nn q F N xm qc pc xn xd xz FL LX i v w) : nmo5tft p nn q F N xm qc pc xn xd xz FL LX i v w' := by
  match i, h with
  | 0, h => exact (let ⟨g, r, ow⟩ := h; ⟨g, r, owns_chgK (T := fun _ => False) ow (Kept.any c) fun _ _ x => x⟩)
  | 1, h => exact h
  | 2, h => exact owns_chgK (T := fun _ => False) h (Kept.any c) fun _ _ x => x
  | 3, h => exact h
  | 4, h => exact (let ⟨b, r, hb⟩ := h; ⟨b, r, hb.keeps c⟩)
  | 5, h => exact EntsAt.keeps h c
  | 6, h => exact EntsAt.keeps h c
  | 7, h => exact h
  | 8, h => exact h
  | 9, h => exact h
  | 10, h => exact h
  | 11, h => exact h
  | 12, h => exact h
  | 13, h => exact h
  | 14, h => exact h
  | 15, h => exact h
  | 16, h => exact h
  | 17, h => exact h
  | 18, h => exact h
  | _ + 19, h => exact h
theorem nmo5tft_sp {p : Option Addr} {nn q F N xm qc : Nat} {pc : Option Addr} {xn : ByteArray} {xd : Bool} {xz : Int} {FL : List Value} {LX : List EntR} (i : Nat) (v : Value) (w w' : World) (h1 : ([0, 2, 4] : List Nat).contains i = false) (h2 : i ≠ 5) (h3 : i ≠ 6) (h : nmo5tft p nn q F N xm qc pc xn xd xz FL LX i v w) : nmo5tft p nn q F N xm qc pc xn xd xz FL LX i v w' := by
  match i, h1, h2, h3, h with
  | 0, h1, h2, h3, h => exact absurd h1 (by decide)
  | 1, h1, h2, h3, h => exact h
  | 2, h1, h2, h3, h => exact absurd h1 (by decide)
  | 3, h1, h2, h3, h => exact h
  | 4, h1, h2, h3, h => exact absurd h1 (by decide)
  | 5, h1, h2, h3, h => exact absurd rfl h2
  | 6, h1, h2, h3, h => exact absurd rfl h3
  | 7, h1, h2, h3, h => exact h
  | 8, h1, h2, h3, h => exact h
  | 9, h1, h2, h3, h => exact h
  | 10, h1, h2, h3, h => exact h
  | 11, h1, h2, h3, h => exact h
  | 12, h1, h2, h3, h => exact h
  | 13, h1, h2, h3, h => exact h
  | 14, h1, h2, h3, h => exact h
  | 15, h1, h2, h3, h => exact h
  | 16, h1, h2, h3, h => exact h
  | 17, h1, h2, h3, h => exact h
  | 18, h1, h2, h3, h => exact h
  | _ + 19, _, _, _, h => exact h
set_option maxRecDepth 100000 in
set_option maxHeartbeats 8000000 in
theorem nodemore_any (v : Value) (l : List EntR) (u : Value) (x : EntR) (w : World) (h : EntsAt w.heap v l) (hw : WeighE l) (hu : ∃ us, u = .agg us.toArray ∧ IsEnt w.heap us x) (hx : x.c.length ≤ 140737488351232 ∧ x.n.size ≤ 140737488351232) : Calls Tryd.prog 5 #[v, u] w fun e w' => e = .returned (.bool true) ∧ Keeps w w' := by
  obtain ⟨p, q, rfl⟩ := rec_shape h
  obtain ⟨us0, rfl, cv, rfl, hc, hq⟩ := hu
  obtain ⟨xn, xd, xz, xc⟩ := x
  dsimp only at hc hx ⊢
  obtain ⟨pc, qc, rfl⟩ := seq_shape hc
  have H := Lib.hid h
  have HW := Lib.hid hw
  have HCX := Lib.hid hc
  have HQX := Lib.hid hq
  clear h hw hc hq
  go_enter Tryd.func5, Tryd.ntmps5
  go_wp2_with fail
  refine Calls.mono (works_any _) ?_
  rintro e w1 ⟨rfl, hk1⟩
  have HB : Hid (BlkAt w1 w.heap.size 40 #[.string xn, .bool xd, .int .i64 xz, .slice pc xc.length qc]) := (BlkAt.new _ _ _).keeps hk1
  have HK1 : Hid (Keeps w w1) := (kal _ _).trans hk1
  clear hk1
  go_wp2_with fail
  refine Calls.mono (large_any _ l _ (EntsAt.keeps H.out HK1.out) HW.out) ?_
  rintro e w2 ⟨rfl, hk2⟩
  have HB2 := Lib.hid (HB.out.keeps hk2)
  have HK2 := Lib.hid (HK1.out.trans hk2)
  clear hk2
  have wk : ∀ wx, Keeps w wx → Calls Tryd.prog 18 #[] wx fun e w' => e = .returned (.bool true) ∧ Keeps w w' := fun wx hk => (works_any wx).mono fun e w' ⟨a, b⟩ => ⟨a, hk.trans b⟩
  have WK := Lib.hid wk
  clear wk
  cases hL : largeL l with
  | true =>
    clear hL
    go_wp2_with fail
    refine Calls.mono (WK.out _ HK2.out) ?_
    rintro e w9 ⟨rfl, hk9⟩
    go_wp2_with fail
    go_ret
    exact ⟨rfl, hk9⟩
  | false =>
  have hln := (largeL_no hL).1
  have HNU := Lib.hid (largeL_num hL)
  have HLN := Lib.hid (largeL_no hL)
  clear hL
  have c3 := HB2.out.cell (i := 3) rfl
  by_cases h300 : 300 < xc.length
  · have g1 : decide ((300 : Int) < (xc.length : Int)) = true := decide_eq_true (by omega)
    go_wp2_with fail
    refine Calls.mono (WK.out _ HK2.out) ?_
    rintro e w9 ⟨rfl, hk9⟩
    go_wp2_with fail
    go_ret
    exact ⟨rfl, hk9⟩
  have g1 : decide ((300 : Int) < (xc.length : Int)) = false := decide_eq_false (by omega)
  have hxc : xc.length ≤ 300 := by omega
  clear h300
  go_wp2_with fail
  refine Calls.mono (given_any _ l _ (EntsAt.keeps H.out HK2.out) HNU.out) ?_
  rintro e w3 ⟨v3, rfl, h3, hk3⟩
  have HB3 := Lib.hid (HB2.out.keeps hk3)
  have HK3 := Lib.hid (HK2.out.trans hk3)
  clear hk3 c3
  go_wp2_with fail
  refine Calls.mono (nmay_any _ l _ h3) ?_
  rintro e w4 ⟨rfl, hk4⟩
  have HB4 := Lib.hid (HB3.out.keeps hk4)
  have HK4 := Lib.hid (HK3.out.trans hk4)
  clear hk4 h3
  cases hM : mayL l with
  | false =>
    clear hM
    go_wp2_with fail
    refine Calls.mono (WK.out _ HK4.out) ?_
    rintro e w9 ⟨rfl, hk9⟩
    go_wp2_with fail
    go_ret
    exact ⟨rfl, hk9⟩
  | true =>
  have hl256 : l.length ≤ 256 := (mayL_all hM).1
  have HMO := Lib.hid (may_more ⟨xn, xd, xz, xc⟩ hM)
  clear hM g1
  go_wp2_with (refine wpList_load_row rfl 40 (.tmp 3) rfl w.heap.size rfl 40 _ (0, 0) _ HB4.out Tryd.underlying40 rfl (by kernel_rfl) ?_)
  refine Calls.mono (given_any _ [⟨xn, xd, xz, xc⟩] _ (ents_one _ ⟨xn, xd, xz, xc⟩ _ (SeqAt.keeps HCX.out HK4.out) HQX.out) ⟨by simp, by simp; omega⟩) ?_
  rintro e w5 ⟨v5, rfl, h5, hk5⟩
  have HB5 := Lib.hid (HB4.out.keeps ((kal _ _).trans hk5))
  have HK5 := Lib.hid (HK4.out.trans ((kal _ _).trans hk5))
  clear hk5
  go_wp2_with fail
  refine Calls.mono (nmay_any _ _ _ h5) ?_
  rintro e wg ⟨rfl, hk6⟩
  have HBG := Lib.hid (HB5.out.keeps hk6)
  have HKG := Lib.hid (HK5.out.trans hk6)
  clear hk6 h5
  have E0 := Lib.hid (HBG.out.cell (i := 0) rfl)
  go_wp2_with fail
  have HNUM : Hid (NumE (l ++ [⟨xn, xd, xz, xc⟩])) := by
    refine ⟨by simp; omega, fun y hy => ?_⟩
    rcases List.mem_append.1 hy with hy | hy
    · exact HNU.out.2 y hy
    · obtain rfl := List.mem_singleton.1 hy; show xc.length ≤ _; omega
  by_cases h0 : l.length = 0
  · have HAB : Hid (aboveE l ⟨xn, xd, xz, xc⟩ = true) := by show _ = _; unfold aboveE; rw [decide_eq_true h0]; rfl
    have HZ : Hid (((l.length : Int) == 0) = true ∧ decide ((l.length : Int) = 0) = true) := ⟨by rw [beq_iff_eq]; omega, decide_eq_true (by omega)⟩
    have H0 := Lib.hid h0
    clear h0
    refine wp_region_stage [30, 31, 32, 33, 34, 35, 36, 37, 38, 39, 40, 41, 42, 43, 44, 6] [[], [0], [1], [2], [3], [3], [3], [3], [3], [3], [3], [3], [3], [3], [3, 13], [14]] [] [0, 0, 0, 0, 0, 0, 0, 0, 0, 0, 0, 0, 0, 0, 0, 0] [4, 5, 6, 7, 8, 9, 10, 11, 12, 13] (fun i v _ => nmo4Z p l.length q w.heap.size 0 0 0 xn xn i v) (fun w w' => Keeps w w') (fun _ _ w' => Keeps wg w') (by kernel_rfl) (by kernel_rfl) (by kernel_rfl) (by kernel_rfl) (by kernel_rfl) (by kernel_rfl) (by kernel_rfl) ?_ ?_ ?_ ?_ ?_ ?_ ?_
    · exact fun i v w w' c h => h
    · exact fun w => keeps_refl w
    · exact fun i s vs w _ h => h
    · refine ⟨?_, ?_, ?_, ?_, ?_, ?_, ?_, ?_, ?_, ?_, ?_, ?_, ?_, ?_, ?_, ?_, trivial⟩
      · exact fun g b h => by (cases h)
      · exact fun g b h => by (cases h)
      · exact fun g b h => by (cases h)
      · exact fun g b h => by (cases h)
      · exact ⟨⟨_, _, rfl, by decide, fun v w h => by (first | (change v = _ at h; subst h; intro x; cases x) | skip)⟩, fun w => rfl⟩
      · exact ⟨⟨_, _, rfl, by decide, fun v w h => by (first | (change v = _ at h; subst h; intro x; cases x) | skip)⟩, fun w => rfl⟩
      · exact ⟨⟨_, _, rfl, by decide, fun v w h => by (first | (change v = _ at h; subst h; intro x; cases x) | skip)⟩, fun w => rfl⟩
      · exact ⟨⟨_, _, rfl, by decide, fun v w h => by (first | (change v = _ at h; subst h; intro x; cases x) | skip)⟩, fun w => rfl⟩
      · exact ⟨⟨_, _, rfl, by decide, fun v w h => by (first | (change v = _ at h; subst h; intro x; cases x) | skip)⟩, fun w => rfl⟩
      · exact ⟨⟨_, _, rfl, by decide, fun v w h => by (first | (change v = _ at h; subst h; intro x; cases x) | skip)⟩, fun w => rfl⟩
      · exact ⟨⟨_, _, rfl, by decide, fun v w h => by (first | (change v = _ at h; subst h; intro x; cases x) | skip)⟩, fun w => rfl⟩
      · exact ⟨⟨_, _, rfl, by decide, fun v w h => by (first | (change v = _ at h; subst h; intro x; cases x) | skip)⟩, fun w => rfl⟩
      · exact ⟨⟨_, _, rfl, by decide, fun v w h => by (first | (change v = _ at h; subst h; intro x; cases x) | skip)⟩, fun w => rfl⟩
      · exact ⟨⟨_, _, rfl, by decide, fun v w h => by (first | (change v = _ at h; subst h; intro x; cases x) | skip)⟩, fun w => rfl⟩
      · exact fun g b h => by (cases h)
      · exact fun g b h => by (cases h)
    · exact fun _ _ => keeps_refl wg
    · refine ⟨?_, ?_, ?_, ?_, ?_, ?_, ?_, ?_, ?_, ?_, ?_, ?_, ?_, ?_, ?_, ?_, trivial⟩
      · intro _ a w1 vs hI ho hn hu K hK
        have e0 : a.tmps[0]? = some (.slice p l.length q) := ho 0 rfl
        clear hn ho hu
        go_simp
        exact hK _ _ (keeps_refl _) hI rfl
      · intro _ a w1 vs hI ho hn hu K hK
        obtain ⟨e30, g30⟩ : a.tmps[30]? = some (vs 0) ∧ vs 0 = .slice p l.length q := hn 0 (by decide)
        rw [g30] at e30
        clear g30
        clear hn ho hu
        go_simp
        exact hK _ _ (keeps_refl _) hI rfl
      · intro _ a w1 vs hI ho hn hu K hK
        obtain ⟨e31, g31⟩ : a.tmps[31]? = some (vs 1) ∧ vs 1 = .int .i64 (l.length : Int) := hn 1 (by decide)
        rw [g31] at e31
        clear g31
        clear hn ho hu
        have i1 := HZ.out.1
        have i2 := HZ.out.2
        go_simp
        exact hK _ _ (keeps_refl _) hI rfl
      · intro _ a w1 vs hI ho hn hu K hK
        obtain ⟨e32, g32⟩ : a.tmps[32]? = some (vs 2) ∧ vs 2 = .bool true := hn 2 (by decide)
        rw [g32] at e32
        clear g32
        clear hn ho hu
        go_simp
        exact hK _ _ (keeps_refl _) hI rfl
      · intro hs; cases hs
      · intro hs; cases hs
      · intro hs; cases hs
      · intro hs; cases hs
      · intro hs; cases hs
      · intro hs; cases hs
      · intro hs; cases hs
      · intro hs; cases hs
      · intro hs; cases hs
      · intro hs; cases hs
      · intro _ a w1 vs hI ho hn hu K hK
        obtain ⟨e33, g33⟩ : a.tmps[33]? = some (vs 3) ∧ vs 3 = .bool true := hn 3 (by decide)
        rw [g33] at e33
        clear g33
        obtain ⟨e43, g43⟩ : a.tmps[43]? = some (vs 13) ∧ vs 13 = undef := hn 13 (by decide)
        rw [g43] at e43
        clear g43
        clear hn ho hu
        go_simp
        exact hK _ _ (keeps_refl _) hI rfl
      · intro _ a w1 vs hI ho hn hu K hK
        obtain ⟨e44, g44⟩ : a.tmps[44]? = some (vs 14) ∧ vs 14 = .bool true := hn 14 (by decide)
        rw [g44] at e44
        clear g44
        clear hn ho hu
        go_simp
        exact hK _ _ (keeps_refl _) hI rfl
    · intro vs wE hI hG
      have eL15 : vs 15 = .bool true := hG 15 (by decide)
      have HKE := Lib.hid hI
      clear hG hI
      simp only [setAll, Nat.zero_add, Nat.reduceAdd, List.setIfInBounds_toArray, List.set_cons_zero, List.set_cons_succ, eL15]
      clear eL15
      generalize vs 0 = y0 at *
      generalize vs 1 = y1 at *
      generalize vs 2 = y2 at *
      generalize vs 3 = y3 at *
      generalize vs 4 = y4 at *
      generalize vs 5 = y5 at *
      generalize vs 6 = y6 at *
      generalize vs 7 = y7 at *
      generalize vs 8 = y8 at *
      generalize vs 9 = y9 at *
      generalize vs 10 = y10 at *
      generalize vs 11 = y11 at *
      generalize vs 12 = y12 at *
      generalize vs 13 = y13 at *
      generalize vs 14 = y14 at *
      have HKF := Lib.hid (HKG.out.trans HKE.out)
      have HBF := Lib.hid (HBG.out.keeps HKE.out)
      clear HKE E0
      generalize wE = wf at *
      have H6 := Lib.hid (EntsAt.keeps H.out HKF.out)
      obtain ⟨us, hu1, hu2, hu3, hu4, hu5⟩ := ents_cells H6.out
      have HOW : Hid (∀ v' w', w'.ownsRow wf.heap.size 40 4 v' (l.length + 1) (us.flatten ++ [.string xn, .bool xd, .int .i64 xz, .slice pc xc.length qc]) → Keeps wf w' → EntsAt w'.heap v' (l ++ [⟨xn, xd, xz, xc⟩])) := fun v' w' ho hk => ents_push hu1 hu3 ho hk rfl (SeqAt.keeps HCX.out HKF.out) HQX.out (by omega)
      have HFL := Lib.hid hu2
      have HFC := Lib.hid hu5
      clear hu1 hu2 hu3 hu4 hu5
      have E0 := Lib.hid (HBF.out.cell (i := 0) rfl)
      have E1 := Lib.hid (HBF.out.cell (i := 1) rfl)
      have E2 := Lib.hid (HBF.out.cell (i := 2) rfl)
      have E3 := Lib.hid (HBF.out.cell (i := 3) rfl)
      go_wp2_with fail
      have HMM := Lib.hid (HMO.out.trans (by rw [HAB.out]))
      cases hone : mayL [⟨xn, xd, xz, xc⟩] with
      | false =>
        have HM : Hid (mayL (l ++ [⟨xn, xd, xz, xc⟩]) = false) := by show _ = _; rw [HMM.out, hone]; rfl
        clear hone
        refine wp_region_lineG [45, 46, 47, 48, 49, 50, 51, 52, 53, 54, 55, 56, 57, 58, 59, 60, 61, 62, 4] [[], [], [0, 1], [], [3], [2, 4], [5], [6], [], [8], [9], [9, 10], [11], [12], [12], [12], [12, 15], [7, 16], [17]] [[], [], [0], [], [], [0, 2, 4], [], [], [], [], [], [], [], [], [], [], [], [], []] [10, 13, 14, 15] (nmo5ftt p l.length q w.heap.size wf.heap.size xc.length qc pc xn xd xz us.flatten (l ++ [⟨xn, xd, xz, xc⟩])) (by kernel_rfl) (by kernel_rfl) (by kernel_rfl) (by kernel_rfl) (by kernel_rfl) (by kernel_rfl) ?_ ?_ ?_
        · refine ⟨?_, ?_, ?_, ?_, ?_, ?_, ?_, ?_, ?_, ?_, ?_, ?_, ?_, ?_, ?_, ?_, ?_, ?_, ?_, trivial⟩
          · exact fun g b h => by (cases h)
          · exact fun g b h => by (cases h)
          · exact fun g b h => by (cases h)
          · exact fun g b h => by (cases h)
          · exact fun g b h => by (cases h)
          · exact fun g b h => by (cases h)
          · exact fun g b h => by (cases h)
          · exact fun g b h => by (cases h)
          · exact fun g b h => by (cases h)
          · exact fun g b h => by (cases h)
          · exact ⟨⟨_, _, rfl, by decide, fun v w h => by (first | (change v = _ at h; subst h; intro x; cases x) | skip)⟩, fun w => rfl⟩
          · exact fun g b h => by (cases h)
          · exact fun g b h => by (cases h)
          · exact ⟨⟨_, _, rfl, by decide, fun v w h => by (first | (change v = _ at h; subst h; intro x; cases x) | skip)⟩, fun w => rfl⟩
          · exact ⟨⟨_, _, rfl, by decide, fun v w h => by (first | (change v = _ at h; subst h; intro x; cases x) | skip)⟩, fun w => rfl⟩
          · exact ⟨⟨_, _, rfl, by decide, fun v w h => by (first | (change v = _ at h; subst h; intro x; cases x) | skip)⟩, fun w => rfl⟩
          · exact fun g b h => by (cases h)
          · exact fun g b h => by (cases h)
          · exact fun g b h => by (cases h)
        · refine ⟨?_, ?_, ?_, ?_, ?_, ?_, ?_, ?_, ?_, ?_, ?_, ?_, ?_, ?_, ?_, ?_, ?_, ?_, ?_, trivial⟩
          · intro _ a w1 vs hk ho hn K hK
            clear hn ho
            go_simp
            have KK := kal w1 (.cells #[] 40)
            exact hK _ _ (hk.trans KK) (fun j u _ _ _ _ h => nmo5ftt_kp j u _ _ KK h) ⟨_, rfl, own_empty0 w1 wf.heap.size 40 4 hk.size⟩
          · intro _ a w1 vs hk ho hn K hK
            have e0 : a.tmps[0]? = some (.slice p l.length q) := ho 0 rfl
            clear hn ho
            go_simp
            exact hK _ _ hk (fun _ _ _ _ _ _ h => h) rfl
          · intro _ a w1 vs hk ho hn K hK
            obtain ⟨e45, g45⟩ : a.tmps[45]? = some (vs 0) ∧ ∃ g, (vs 0) = .slice (some ⟨g, 0, none⟩) 0 0 ∧ w1.ownsRow wf.heap.size 40 4 (vs 0) 0 [] := hn 0 (by decide)
            obtain ⟨e46, g46⟩ : a.tmps[46]? = some (vs 1) ∧ vs 1 = .slice p l.length q := hn 1 (by decide)
            rw [g46] at e46
            clear g46
            clear hn ho
            obtain ⟨g, r, ow⟩ := g45
            rw [r] at e45 ow
            refine oper_freshR elEntT rfl (.tmp 45) (.tmp 46) rfl g wf.heap.size (by simp [Act.eval, e45]) ow hk.size p l.length q us.flatten (by simp [Act.eval, e46]) HFL.out (fun h0 => let ⟨b, o, e, hc⟩ := HFC.out h0; ⟨b, o, e, fun j hj => keeps_cell hk (hc j hj)⟩) (by omega) ?_
            intro v' w' ow2 KK
            exact hK v' w' (hk.trans KK) (fun j u _ _ _ _ h => nmo5ftt_kp j u _ _ KK h) ow2
          · intro _ a w1 vs hk ho hn K hK
            have e3 : a.tmps[3]? = some (.pointer (some ⟨w.heap.size, 0, none⟩)) := ho 3 rfl
            clear hn ho
            have c0 := keeps_cell hk E0.out
            have c1 := keeps_cell hk E1.out
            have c2 := keeps_cell hk E2.out
            have c3 := keeps_cell hk E3.out
            go_simp
            exact hK _ _ hk (fun _ _ _ _ _ _ h => h) rfl
          · intro _ a w1 vs hk ho hn K hK
            obtain ⟨e48, g48⟩ : a.tmps[48]? = some (vs 3) ∧ vs 3 = .agg #[.string xn, .bool xd, .int .i64 xz, .slice pc xc.length qc] := hn 3 (by decide)
            rw [g48] at e48
            clear g48
            clear hn ho
            go_simp
            have KK := kal w1 (.cells #[.string xn, .bool xd, .int .i64 xz, .slice pc xc.length qc] 40)
            exact hK _ _ (hk.trans KK) (fun j u _ _ _ _ h => nmo5ftt_kp j u _ _ KK h) ⟨_, rfl, BlkAt.new _ _ _⟩
          · intro _ a w1 vs hk ho hn K hK
            obtain ⟨e47, g47⟩ : a.tmps[47]? = some (vs 2) ∧ w1.ownsRow wf.heap.size 40 4 (vs 2) l.length us.flatten := hn 2 (by decide)
            obtain ⟨e49, g49⟩ : a.tmps[49]? = some (vs 4) ∧ ∃ b, (vs 4) = .slice (some ⟨b, 0, none⟩) 1 1 ∧ BlkAt w1 b 40 #[.string xn, .bool xd, .int .i64 xz, .slice pc xc.length qc] := hn 4 (by decide)
            clear hn ho
            obtain ⟨b, r, hb⟩ := g49
            rw [r] at e49
            refine oper_appr1 elEntT rfl (.tmp 47) (.tmp 49) rfl wf.heap.size (vs 2) l.length us.flatten (by simp [Act.eval, e47]) g47 b [.string xn, .bool xd, .int .i64 xz, .slice pc xc.length qc] (by simp [Act.eval, e49]) rfl (blk_cells hb) (by intro y hy; simp at hy; rcases hy with rfl | rfl | rfl | rfl <;> rfl) (by omega) hk.size ?_
            intro v' w' ho hc
            have KK : Keeps wf w' := hk.then (chg_kept (B := wf.heap.size) hc (fun q _ e => (own_blockK g47 q e).1) hk.size) (Nat.le_refl _)
            exact hK v' w' KK (fun j u h1 h2 h3 _ h => nmo5ftt_sp j u _ _ h1 h2 (fun e => by subst e; cases h3) h) (HOW.out v' w' ho KK)
          · intro _ a w1 vs hk ho hn K hK
            obtain ⟨e50, g50⟩ : a.tmps[50]? = some (vs 5) ∧ EntsAt w1.heap (vs 5) (l ++ [⟨xn, xd, xz, xc⟩]) := hn 5 (by decide)
            clear hn ho
            go_simp
            refine Calls.mono (given_any _ ((l ++ [⟨xn, xd, xz, xc⟩])) _ g50 HNUM.out) ?_
            rintro e w' ⟨v', rfl, h1, KK⟩
            go_simp
            exact hK _ _ (hk.trans KK) (fun j u _ _ _ _ h => nmo5ftt_kp j u _ _ KK h) h1
          · intro _ a w1 vs hk ho hn K hK
            obtain ⟨e51, g51⟩ : a.tmps[51]? = some (vs 6) ∧ EntsAt w1.heap (vs 6) (l ++ [⟨xn, xd, xz, xc⟩]) := hn 6 (by decide)
            clear hn ho
            go_simp
            refine Calls.mono (nmay_any _ ((l ++ [⟨xn, xd, xz, xc⟩])) _ g51) ?_
            rintro e w' ⟨rfl, KK⟩
            rw [HM.out]
            go_simp
            exact hK _ _ (hk.trans KK) (fun j u _ _ _ _ h => nmo5ftt_kp j u _ _ KK h) rfl
          · intro _ a w1 vs hk ho hn K hK
            have e5 : a.tmps[5]? = some (.bool false) := ho 5 rfl
            clear hn ho
            go_simp
            exact hK _ _ hk (fun _ _ _ _ _ _ h => h) rfl
          · intro _ a w1 vs hk ho hn K hK
            obtain ⟨e53, g53⟩ : a.tmps[53]? = some (vs 8) ∧ vs 8 = .bool false := hn 8 (by decide)
            rw [g53] at e53
            clear g53
            clear hn ho
            go_simp
            exact hK _ _ hk (fun _ _ _ _ _ _ h => h) rfl
          · intro hs; cases hs
          · intro _ a w1 vs hk ho hn K hK
            obtain ⟨e54, g54⟩ : a.tmps[54]? = some (vs 9) ∧ vs 9 = .bool false := hn 9 (by decide)
            rw [g54] at e54
            clear g54
            obtain ⟨e55, g55⟩ : a.tmps[55]? = some (vs 10) ∧ vs 10 = undef := hn 10 (by decide)
            rw [g55] at e55
            clear g55
            clear hn ho
            go_simp
            exact hK _ _ hk (fun _ _ _ _ _ _ h => h) rfl
          · intro _ a w1 vs hk ho hn K hK
            obtain ⟨e56, g56⟩ : a.tmps[56]? = some (vs 11) ∧ vs 11 = .bool false := hn 11 (by decide)
            rw [g56] at e56
            clear g56
            clear hn ho
            go_simp
            exact hK _ _ hk (fun _ _ _ _ _ _ h => h) rfl
          · intro hs; cases hs
          · intro hs; cases hs
          · intro hs; cases hs
          · intro _ a w1 vs hk ho hn K hK
            obtain ⟨e57, g57⟩ : a.tmps[57]? = some (vs 12) ∧ vs 12 = .bool false := hn 12 (by decide)
            rw [g57] at e57
            clear g57
            obtain ⟨e60, g60⟩ : a.tmps[60]? = some (vs 15) ∧ vs 15 = undef := hn 15 (by decide)
            rw [g60] at e60
            clear g60
            clear hn ho
            go_simp
            exact hK _ _ hk (fun _ _ _ _ _ _ h => h) rfl
          · intro _ a w1 vs hk ho hn K hK
            obtain ⟨e52, g52⟩ : a.tmps[52]? = some (vs 7) ∧ vs 7 = .bool false := hn 7 (by decide)
            rw [g52] at e52
            clear g52
            obtain ⟨e61, g61⟩ : a.tmps[61]? = some (vs 16) ∧ vs 16 = .bool false := hn 16 (by decide)
            rw [g61] at e61
            clear g61
            clear hn ho
            go_simp
            exact hK _ _ hk (fun _ _ _ _ _ _ h => h) rfl
          · intro _ a w1 vs hk ho hn K hK
            obtain ⟨e62, g62⟩ : a.tmps[62]? = some (vs 17) ∧ vs 17 = .bool true := hn 17 (by decide)
            rw [g62] at e62
            clear g62
            clear hn ho
            go_simp
            exact hK _ _ hk (fun _ _ _ _ _ _ h => h) rfl
        · intro vs wE hI hG
          have eL18 : vs 18 = .bool true := hG 18 (by decide) (by decide)
          have HKE := Lib.hid hI
          clear hG hI
          simp only [setAll, Nat.zero_add, Nat.reduceAdd, List.setIfInBounds_toArray, List.set_cons_zero, List.set_cons_succ, eL18]
          clear eL18
          generalize vs 0 = y0 at *
          generalize vs 1 = y1 at *
          generalize vs 2 = y2 at *
          generalize vs 3 = y3 at *
          generalize vs 4 = y4 at *
          generalize vs 5 = y5 at *
          generalize vs 6 = y6 at *
          generalize vs 7 = y7 at *
          generalize vs 8 = y8 at *
          generalize vs 9 = y9 at *
          generalize vs 10 = y10 at *
          generalize vs 11 = y11 at *
          generalize vs 12 = y12 at *
          generalize vs 13 = y13 at *
          generalize vs 14 = y14 at *
          generalize vs 15 = y15 at *
          generalize vs 16 = y16 at *
          generalize vs 17 = y17 at *
          have HKW := Lib.hid (HKF.out.trans HKE.out)
          clear HKE
          go_wp2_with fail
          go_ret
          exact ⟨rfl, HKW.out⟩
      | true =>
        by_cases hlt : l.length < 256
        · have HM : Hid (mayL (l ++ [⟨xn, xd, xz, xc⟩]) = true) := by show _ = _; rw [HMM.out, hone, decide_eq_true hlt]; rfl
          have HLT : Hid (decide ((l.length : Int) < 256) = true) := decide_eq_true (by omega)
          clear hone hlt
          refine wp_region_lineG [45, 46, 47, 48, 49, 50, 51, 52, 53, 54, 55, 56, 57, 58, 59, 60, 61, 62, 4] [[], [], [0, 1], [], [3], [2, 4], [5], [6], [], [8], [9], [9, 10], [11], [12], [12, 13], [12, 14], [12, 15], [7, 16], [17]] [[], [], [0], [], [], [0, 2, 4], [], [], [], [], [], [], [], [], [], [], [], [], []] [] (nmo5ttt p l.length q w.heap.size wf.heap.size xc.length qc pc xn xd xz us.flatten (l ++ [⟨xn, xd, xz, xc⟩])) (by kernel_rfl) (by kernel_rfl) (by kernel_rfl) (by kernel_rfl) (by kernel_rfl) (by kernel_rfl) ?_ ?_ ?_
          · refine ⟨?_, ?_, ?_, ?_, ?_, ?_, ?_, ?_, ?_, ?_, ?_, ?_, ?_, ?_, ?_, ?_, ?_, ?_, ?_, trivial⟩
            · exact fun g b h => by (cases h)
            · exact fun g b h => by (cases h)
            · exact fun g b h => by (cases h)
            · exact fun g b h => by (cases h)
            · exact fun g b h => by (cases h)
            · exact fun g b h => by (cases h)
            · exact fun g b h => by (cases h)
            · exact fun g b h => by (cases h)
            · exact fun g b h => by (cases h)
            · exact fun g b h => by (cases h)
            · exact fun g b h => by (cases h; exact ⟨by decide, fun v w h => h⟩)
            · exact fun g b h => by (cases h)
            · exact fun g b h => by (cases h)
            · exact fun g b h => by (cases h; exact ⟨by decide, fun v w h => h⟩)
            · exact fun g b h => by (cases h; exact ⟨by decide, fun v w h => h⟩)
            · exact fun g b h => by (cases h; exact ⟨by decide, fun v w h => h⟩)
            · exact fun g b h => by (cases h)
            · exact fun g b h => by (cases h)
            · exact fun g b h => by (cases h)
          · refine ⟨?_, ?_, ?_, ?_, ?_, ?_, ?_, ?_, ?_, ?_, ?_, ?_, ?_, ?_, ?_, ?_, ?_, ?_, ?_, trivial⟩
            · intro _ a w1 vs hk ho hn K hK
              clear hn ho
              go_simp
              have KK := kal w1 (.cells #[] 40)
              exact hK _ _ (hk.trans KK) (fun j u _ _ _ _ h => nmo5ttt_kp j u _ _ KK h) ⟨_, rfl, own_empty0 w1 wf.heap.size 40 4 hk.size⟩
            · intro _ a w1 vs hk ho hn K hK
              have e0 : a.tmps[0]? = some (.slice p l.length q) := ho 0 rfl
              clear hn ho
              go_simp
              exact hK _ _ hk (fun _ _ _ _ _ _ h => h) rfl
            · intro _ a w1 vs hk ho hn K hK
              obtain ⟨e45, g45⟩ : a.tmps[45]? = some (vs 0) ∧ ∃ g, (vs 0) = .slice (some ⟨g, 0, none⟩) 0 0 ∧ w1.ownsRow wf.heap.size 40 4 (vs 0) 0 [] := hn 0 (by decide)
              obtain ⟨e46, g46⟩ : a.tmps[46]? = some (vs 1) ∧ vs 1 = .slice p l.length q := hn 1 (by decide)
              rw [g46] at e46
              clear g46
              clear hn ho
              obtain ⟨g, r, ow⟩ := g45
              rw [r] at e45 ow
              refine oper_freshR elEntT rfl (.tmp 45) (.tmp 46) rfl g wf.heap.size (by simp [Act.eval, e45]) ow hk.size p l.length q us.flatten (by simp [Act.eval, e46]) HFL.out (fun h0 => let ⟨b, o, e, hc⟩ := HFC.out h0; ⟨b, o, e, fun j hj => keeps_cell hk (hc j hj)⟩) (by omega) ?_
              intro v' w' ow2 KK
              exact hK v' w' (hk.trans KK) (fun j u _ _ _ _ h => nmo5ttt_kp j u _ _ KK h) ow2
            · intro _ a w1 vs hk ho hn K hK
              have e3 : a.tmps[3]? = some (.pointer (some ⟨w.heap.size, 0, none⟩)) := ho 3 rfl
              clear hn ho
              have c0 := keeps_cell hk E0.out
              have c1 := keeps_cell hk E1.out
              have c2 := keeps_cell hk E2.out
              have c3 := keeps_cell hk E3.out
              go_simp
              exact hK _ _ hk (fun _ _ _ _ _ _ h => h) rfl
            · intro _ a w1 vs hk ho hn K hK
              obtain ⟨e48, g48⟩ : a.tmps[48]? = some (vs 3) ∧ vs 3 = .agg #[.string xn, .bool xd, .int .i64 xz, .slice pc xc.length qc] := hn 3 (by decide)
              rw [g48] at e48
              clear g48
              clear hn ho
              go_simp
              have KK := kal w1 (.cells #[.string xn, .bool xd, .int .i64 xz, .slice pc xc.length qc] 40)
              exact hK _ _ (hk.trans KK) (fun j u _ _ _ _ h => nmo5ttt_kp j u _ _ KK h) ⟨_, rfl, BlkAt.new _ _ _⟩
            · intro _ a w1 vs hk ho hn K hK
              obtain ⟨e47, g47⟩ : a.tmps[47]? = some (vs 2) ∧ w1.ownsRow wf.heap.size 40 4 (vs 2) l.length us.flatten := hn 2 (by decide)
              obtain ⟨e49, g49⟩ : a.tmps[49]? = some (vs 4) ∧ ∃ b, (vs 4) = .slice (some ⟨b, 0, none⟩) 1 1 ∧ BlkAt w1 b 40 #[.string xn, .bool xd, .int .i64 xz, .slice pc xc.length qc] := hn 4 (by decide)
              clear hn ho
              obtain ⟨b, r, hb⟩ := g49
              rw [r] at e49
              refine oper_appr1 elEntT rfl (.tmp 47) (.tmp 49) rfl wf.heap.size (vs 2) l.length us.flatten (by simp [Act.eval, e47]) g47 b [.string xn, .bool xd, .int .i64 xz, .slice pc xc.length qc] (by simp [Act.eval, e49]) rfl (blk_cells hb) (by intro y hy; simp at hy; rcases hy with rfl | rfl | rfl | rfl <;> rfl) (by omega) hk.size ?_
              intro v' w' ho hc
              have KK : Keeps wf w' := hk.then (chg_kept (B := wf.heap.size) hc (fun q _ e => (own_blockK g47 q e).1) hk.size) (Nat.le_refl _)
              exact hK v' w' KK (fun j u h1 h2 h3 _ h => nmo5ttt_sp j u _ _ h1 h2 (fun e => by subst e; cases h3) h) (HOW.out v' w' ho KK)
            · intro _ a w1 vs hk ho hn K hK
              obtain ⟨e50, g50⟩ : a.tmps[50]? = some (vs 5) ∧ EntsAt w1.heap (vs 5) (l ++ [⟨xn, xd, xz, xc⟩]) := hn 5 (by decide)
              clear hn ho
              go_simp
              refine Calls.mono (given_any _ ((l ++ [⟨xn, xd, xz, xc⟩])) _ g50 HNUM.out) ?_
              rintro e w' ⟨v', rfl, h1, KK⟩
              go_simp
              exact hK _ _ (hk.trans KK) (fun j u _ _ _ _ h => nmo5ttt_kp j u _ _ KK h) h1
            · intro _ a w1 vs hk ho hn K hK
              obtain ⟨e51, g51⟩ : a.tmps[51]? = some (vs 6) ∧ EntsAt w1.heap (vs 6) (l ++ [⟨xn, xd, xz, xc⟩]) := hn 6 (by decide)
              clear hn ho
              go_simp
              refine Calls.mono (nmay_any _ ((l ++ [⟨xn, xd, xz, xc⟩])) _ g51) ?_
              rintro e w' ⟨rfl, KK⟩
              rw [HM.out]
              go_simp
              exact hK _ _ (hk.trans KK) (fun j u _ _ _ _ h => nmo5ttt_kp j u _ _ KK h) rfl
            · intro _ a w1 vs hk ho hn K hK
              have e5 : a.tmps[5]? = some (.bool true) := ho 5 rfl
              clear hn ho
              go_simp
              exact hK _ _ hk (fun _ _ _ _ _ _ h => h) rfl
            · intro _ a w1 vs hk ho hn K hK
              obtain ⟨e53, g53⟩ : a.tmps[53]? = some (vs 8) ∧ vs 8 = .bool true := hn 8 (by decide)
              rw [g53] at e53
              clear g53
              clear hn ho
              go_simp
              exact hK _ _ hk (fun _ _ _ _ _ _ h => h) rfl
            · intro _ a w1 vs hk ho hn K hK
              have e6 : a.tmps[6]? = some (.bool true) := ho 6 rfl
              clear hn ho
              go_simp
              exact hK _ _ hk (fun _ _ _ _ _ _ h => h) rfl
            · intro _ a w1 vs hk ho hn K hK
              obtain ⟨e54, g54⟩ : a.tmps[54]? = some (vs 9) ∧ vs 9 = .bool true := hn 9 (by decide)
              rw [g54] at e54
              clear g54
              obtain ⟨e55, g55⟩ : a.tmps[55]? = some (vs 10) ∧ vs 10 = .bool true := hn 10 (by decide)
              rw [g55] at e55
              clear g55
              clear hn ho
              go_simp
              exact hK _ _ hk (fun _ _ _ _ _ _ h => h) rfl
            · intro _ a w1 vs hk ho hn K hK
              obtain ⟨e56, g56⟩ : a.tmps[56]? = some (vs 11) ∧ vs 11 = .bool true := hn 11 (by decide)
              rw [g56] at e56
              clear g56
              clear hn ho
              go_simp
              exact hK _ _ hk (fun _ _ _ _ _ _ h => h) rfl
            · intro _ a w1 vs hk ho hn K hK
              have e0 : a.tmps[0]? = some (.slice p l.length q) := ho 0 rfl
              clear hn ho
              go_simp
              exact hK _ _ hk (fun _ _ _ _ _ _ h => h) rfl
            · intro _ a w1 vs hk ho hn K hK
              obtain ⟨e58, g58⟩ : a.tmps[58]? = some (vs 13) ∧ vs 13 = .slice p l.length q := hn 13 (by decide)
              rw [g58] at e58
              clear g58
              clear hn ho
              go_simp
              exact hK _ _ hk (fun _ _ _ _ _ _ h => h) rfl
            · intro _ a w1 vs hk ho hn K hK
              obtain ⟨e59, g59⟩ : a.tmps[59]? = some (vs 14) ∧ vs 14 = .int .i64 (l.length : Int) := hn 14 (by decide)
              rw [g59] at e59
              clear g59
              clear hn ho
              have i1 := HLT.out
              go_simp
              exact hK _ _ hk (fun _ _ _ _ _ _ h => h) rfl
            · intro _ a w1 vs hk ho hn K hK
              obtain ⟨e57, g57⟩ : a.tmps[57]? = some (vs 12) ∧ vs 12 = .bool true := hn 12 (by decide)
              rw [g57] at e57
              clear g57
              obtain ⟨e60, g60⟩ : a.tmps[60]? = some (vs 15) ∧ vs 15 = .bool true := hn 15 (by decide)
              rw [g60] at e60
              clear g60
              clear hn ho
              go_simp
              exact hK _ _ hk (fun _ _ _ _ _ _ h => h) rfl
            · intro _ a w1 vs hk ho hn K hK
              obtain ⟨e52, g52⟩ : a.tmps[52]? = some (vs 7) ∧ vs 7 = .bool true := hn 7 (by decide)
              rw [g52] at e52
              clear g52
              obtain ⟨e61, g61⟩ : a.tmps[61]? = some (vs 16) ∧ vs 16 = .bool true := hn 16 (by decide)
              rw [g61] at e61
              clear g61
              clear hn ho
              go_simp
              exact hK _ _ hk (fun _ _ _ _ _ _ h => h) rfl
            · intro _ a w1 vs hk ho hn K hK
              obtain ⟨e62, g62⟩ : a.tmps[62]? = some (vs 17) ∧ vs 17 = .bool true := hn 17 (by decide)
              rw [g62] at e62
              clear g62
              clear hn ho
              go_simp
              exact hK _ _ hk (fun _ _ _ _ _ _ h => h) rfl
          · intro vs wE hI hG
            have eL18 : vs 18 = .bool true := hG 18 (by decide) (by decide)
            have HKE := Lib.hid hI
            clear hG hI
            simp only [setAll, Nat.zero_add, Nat.reduceAdd, List.setIfInBounds_toArray, List.set_cons_zero, List.set_cons_succ, eL18]
            clear eL18
            generalize vs 0 = y0 at *
            generalize vs 1 = y1 at *
            generalize vs 2 = y2 at *
            generalize vs 3 = y3 at *
            generalize vs 4 = y4 at *
            generalize vs 5 = y5 at *
            generalize vs 6 = y6 at *
            generalize vs 7 = y7 at *
            generalize vs 8 = y8 at *
            generalize vs 9 = y9 at *
            generalize vs 10 = y10 at *
            generalize vs 11 = y11 at *
            generalize vs 12 = y12 at *
            generalize vs 13 = y13 at *
            generalize vs 14 = y14 at *
            generalize vs 15 = y15 at *
            generalize vs 16 = y16 at *
            generalize vs 17 = y17 at *
            have HKW := Lib.hid (HKF.out.trans HKE.out)
            clear HKE
            go_wp2_with fail
            go_ret
            exact ⟨rfl, HKW.out⟩
        · have HM : Hid (mayL (l ++ [⟨xn, xd, xz, xc⟩]) = false) := by show _ = _; rw [HMM.out, hone, decide_eq_false hlt]; rfl
          have HLT : Hid (decide ((l.length : Int) < 256) = false) := decide_eq_false (by omega)
          clear hone hlt
          refine wp_region_lineG [45, 46, 47, 48, 49, 50, 51, 52, 53, 54, 55, 56, 57, 58, 59, 60, 61, 62, 4] [[], [], [0, 1], [], [3], [2, 4], [5], [6], [], [8], [9], [9, 10], [11], [12], [12, 13], [12, 14], [12, 15], [7, 16], [17]] [[], [], [0], [], [], [0, 2, 4], [], [], [], [], [], [], [], [], [], [], [], [], []] [] (nmo5ttf p l.length q w.heap.size wf.heap.size xc.length qc pc xn xd xz us.flatten (l ++ [⟨xn, xd, xz, xc⟩])) (by kernel_rfl) (by kernel_rfl) (by kernel_rfl) (by kernel_rfl) (by kernel_rfl) (by kernel_rfl) ?_ ?_ ?_
          · refine ⟨?_, ?_, ?_, ?_, ?_, ?_, ?_, ?_, ?_, ?_, ?_, ?_, ?_, ?_, ?_, ?_, ?_, ?_, ?_, trivial⟩
            · exact fun g b h => by (cases h)
            · exact fun g b h => by (cases h)
            · exact fun g b h => by (cases h)
            · exact fun g b h => by (cases h)
            · exact fun g b h => by (cases h)
            · exact fun g b h => by (cases h)
            · exact fun g b h => by (cases h)
            · exact fun g b h => by (cases h)
            · exact fun g b h => by (cases h)
            · exact fun g b h => by (cases h)
            · exact fun g b h => by (cases h; exact ⟨by decide, fun v w h => h⟩)
            · exact fun g b h => by (cases h)
            · exact fun g b h => by (cases h)
            · exact fun g b h => by (cases h; exact ⟨by decide, fun v w h => h⟩)
            · exact fun g b h => by (cases h; exact ⟨by decide, fun v w h => h⟩)
            · exact fun g b h => by (cases h; exact ⟨by decide, fun v w h => h⟩)
            · exact fun g b h => by (cases h)
            · exact fun g b h => by (cases h)
            · exact fun g b h => by (cases h)
          · refine ⟨?_, ?_, ?_, ?_, ?_, ?_, ?_, ?_, ?_, ?_, ?_, ?_, ?_, ?_, ?_, ?_, ?_, ?_, ?_, trivial⟩
            · intro _ a w1 vs hk ho hn K hK
              clear hn ho
              go_simp
              have KK := kal w1 (.cells #[] 40)
              exact hK _ _ (hk.trans KK) (fun j u _ _ _ _ h => nmo5ttf_kp j u _ _ KK h) ⟨_, rfl, own_empty0 w1 wf.heap.size 40 4 hk.size⟩
            · intro _ a w1 vs hk ho hn K hK
              have e0 : a.tmps[0]? = some (.slice p l.length q) := ho 0 rfl
              clear hn ho
              go_simp
              exact hK _ _ hk (fun _ _ _ _ _ _ h => h) rfl
            · intro _ a w1 vs hk ho hn K hK
              obtain ⟨e45, g45⟩ : a.tmps[45]? = some (vs 0) ∧ ∃ g, (vs 0) = .slice (some ⟨g, 0, none⟩) 0 0 ∧ w1.ownsRow wf.heap.size 40 4 (vs 0) 0 [] := hn 0 (by decide)
              obtain ⟨e46, g46⟩ : a.tmps[46]? = some (vs 1) ∧ vs 1 = .slice p l.length q := hn 1 (by decide)
              rw [g46] at e46
              clear g46
              clear hn ho
              obtain ⟨g, r, ow⟩ := g45
              rw [r] at e45 ow
              refine oper_freshR elEntT rfl (.tmp 45) (.tmp 46) rfl g wf.heap.size (by simp [Act.eval, e45]) ow hk.size p l.length q us.flatten (by simp [Act.eval, e46]) HFL.out (fun h0 => let ⟨b, o, e, hc⟩ := HFC.out h0; ⟨b, o, e, fun j hj => keeps_cell hk (hc j hj)⟩) (by omega) ?_
              intro v' w' ow2 KK
              exact hK v' w' (hk.trans KK) (fun j u _ _ _ _ h => nmo5ttf_kp j u _ _ KK h) ow2
            · intro _ a w1 vs hk ho hn K hK
              have e3 : a.tmps[3]? = some (.pointer (some ⟨w.heap.size, 0, none⟩)) := ho 3 rfl
              clear hn ho
              have c0 := keeps_cell hk E0.out
              have c1 := keeps_cell hk E1.out
              have c2 := keeps_cell hk E2.out
              have c3 := keeps_cell hk E3.out
              go_simp
              exact hK _ _ hk (fun _ _ _ _ _ _ h => h) rfl
            · intro _ a w1 vs hk ho hn K hK
              obtain ⟨e48, g48⟩ : a.tmps[48]? = some (vs 3) ∧ vs 3 = .agg #[.string xn, .bool xd, .int .i64 xz, .slice pc xc.length qc] := hn 3 (by decide)
              rw [g48] at e48
              clear g48
              clear hn ho
              go_simp
              have KK := kal w1 (.cells #[.string xn, .bool xd, .int .i64 xz, .slice pc xc.length qc] 40)
              exact hK _ _ (hk.trans KK) (fun j u _ _ _ _ h => nmo5ttf_kp j u _ _ KK h) ⟨_, rfl, BlkAt.new _ _ _⟩
            · intro _ a w1 vs hk ho hn K hK
              obtain ⟨e47, g47⟩ : a.tmps[47]? = some (vs 2) ∧ w1.ownsRow wf.heap.size 40 4 (vs 2) l.length us.flatten := hn 2 (by decide)
              obtain ⟨e49, g49⟩ : a.tmps[49]? = some (vs 4) ∧ ∃ b, (vs 4) = .slice (some ⟨b, 0, none⟩) 1 1 ∧ BlkAt w1 b 40 #[.string xn, .bool xd, .int .i64 xz, .slice pc xc.length qc] := hn 4 (by decide)
              clear hn ho
              obtain ⟨b, r, hb⟩ := g49
              rw [r] at e49
              refine oper_appr1 elEntT rfl (.tmp 47) (.tmp 49) rfl wf.heap.size (vs 2) l.length us.flatten (by simp [Act.eval, e47]) g47 b [.string xn, .bool xd, .int .i64 xz, .slice pc xc.length qc] (by simp [Act.eval, e49]) rfl (blk_cells hb) (by intro y hy; simp at hy; rcases hy with rfl | rfl | rfl | rfl <;> rfl) (by omega) hk.size ?_
              intro v' w' ho hc
              have KK : Keeps wf w' := hk.then (chg_kept (B := wf.heap.size) hc (fun q _ e => (own_blockK g47 q e).1) hk.size) (Nat.le_refl _)
              exact hK v' w' KK (fun j u h1 h2 h3 _ h => nmo5ttf_sp j u _ _ h1 h2 (fun e => by subst e; cases h3) h) (HOW.out v' w' ho KK)
            · intro _ a w1 vs hk ho hn K hK
              obtain ⟨e50, g50⟩ : a.tmps[50]? = some (vs 5) ∧ EntsAt w1.heap (vs 5) (l ++ [⟨xn, xd, xz, xc⟩]) := hn 5 (by decide)
              clear hn ho
              go_simp
              refine Calls.mono (given_any _ ((l ++ [⟨xn, xd, xz, xc⟩])) _ g50 HNUM.out) ?_
              rintro e w' ⟨v', rfl, h1, KK⟩
              go_simp
              exact hK _ _ (hk.trans KK) (fun j u _ _ _ _ h => nmo5ttf_kp j u _ _ KK h) h1
            · intro _ a w1 vs hk ho hn K hK
              obtain ⟨e51, g51⟩ : a.tmps[51]? = some (vs 6) ∧ EntsAt w1.heap (vs 6) (l ++ [⟨xn, xd, xz, xc⟩]) := hn 6 (by decide)
              clear hn ho
              go_simp
              refine Calls.mono (nmay_any _ ((l ++ [⟨xn, xd, xz, xc⟩])) _ g51) ?_
              rintro e w' ⟨rfl, KK⟩
              rw [HM.out]
              go_simp
              exact hK _ _ (hk.trans KK) (fun j u _ _ _ _ h => nmo5ttf_kp j u _ _ KK h) rfl
            · intro _ a w1 vs hk ho hn K hK
              have e5 : a.tmps[5]? = some (.bool true) := ho 5 rfl
              clear hn ho
              go_simp
              exact hK _ _ hk (fun _ _ _ _ _ _ h => h) rfl
            · intro _ a w1 vs hk ho hn K hK
              obtain ⟨e53, g53⟩ : a.tmps[53]? = some (vs 8) ∧ vs 8 = .bool true := hn 8 (by decide)
              rw [g53] at e53
              clear g53
              clear hn ho
              go_simp
              exact hK _ _ hk (fun _ _ _ _ _ _ h => h) rfl
            · intro _ a w1 vs hk ho hn K hK
              have e6 : a.tmps[6]? = some (.bool true) := ho 6 rfl
              clear hn ho
              go_simp
              exact hK _ _ hk (fun _ _ _ _ _ _ h => h) rfl
            · intro _ a w1 vs hk ho hn K hK
              obtain ⟨e54, g54⟩ : a.tmps[54]? = some (vs 9) ∧ vs 9 = .bool true := hn 9 (by decide)
              rw [g54] at e54
              clear g54
              obtain ⟨e55, g55⟩ : a.tmps[55]? = some (vs 10) ∧ vs 10 = .bool true := hn 10 (by decide)
              rw [g55] at e55
              clear g55
              clear hn ho
              go_simp
              exact hK _ _ hk (fun _ _ _ _ _ _ h => h) rfl
            · intro _ a w1 vs hk ho hn K hK
              obtain ⟨e56, g56⟩ : a.tmps[56]? = some (vs 11) ∧ vs 11 = .bool true := hn 11 (by decide)
              rw [g56] at e56
              clear g56
              clear hn ho
              go_simp
              exact hK _ _ hk (fun _ _ _ _ _ _ h => h) rfl
            · intro _ a w1 vs hk ho hn K hK
              have e0 : a.tmps[0]? = some (.slice p l.length q) := ho 0 rfl
              clear hn ho
              go_simp
              exact hK _ _ hk (fun _ _ _ _ _ _ h => h) rfl
            · intro _ a w1 vs hk ho hn K hK
              obtain ⟨e58, g58⟩ : a.tmps[58]? = some (vs 13) ∧ vs 13 = .slice p l.length q := hn 13 (by decide)
              rw [g58] at e58
              clear g58
              clear hn ho
              go_simp
              exact hK _ _ hk (fun _ _ _ _ _ _ h => h) rfl
            · intro _ a w1 vs hk ho hn K hK
              obtain ⟨e59, g59⟩ : a.tmps[59]? = some (vs 14) ∧ vs 14 = .int .i64 (l.length : Int) := hn 14 (by decide)
              rw [g59] at e59
              clear g59
              clear hn ho
              have i1 := HLT.out
              go_simp
              exact hK _ _ hk (fun _ _ _ _ _ _ h => h) rfl
            · intro _ a w1 vs hk ho hn K hK
              obtain ⟨e57, g57⟩ : a.tmps[57]? = some (vs 12) ∧ vs 12 = .bool true := hn 12 (by decide)
              rw [g57] at e57
              clear g57
              obtain ⟨e60, g60⟩ : a.tmps[60]? = some (vs 15) ∧ vs 15 = .bool false := hn 15 (by decide)
              rw [g60] at e60
              clear g60
              clear hn ho
              go_simp
              exact hK _ _ hk (fun _ _ _ _ _ _ h => h) rfl
            · intro _ a w1 vs hk ho hn K hK
              obtain ⟨e52, g52⟩ : a.tmps[52]? = some (vs 7) ∧ vs 7 = .bool false := hn 7 (by decide)
              rw [g52] at e52
              clear g52
              obtain ⟨e61, g61⟩ : a.tmps[61]? = some (vs 16) ∧ vs 16 = .bool false := hn 16 (by decide)
              rw [g61] at e61
              clear g61
              clear hn ho
              go_simp
              exact hK _ _ hk (fun _ _ _ _ _ _ h => h) rfl
            · intro _ a w1 vs hk ho hn K hK
              obtain ⟨e62, g62⟩ : a.tmps[62]? = some (vs 17) ∧ vs 17 = .bool true := hn 17 (by decide)
              rw [g62] at e62
              clear g62
              clear hn ho
              go_simp
              exact hK _ _ hk (fun _ _ _ _ _ _ h => h) rfl
          · intro vs wE hI hG
            have eL18 : vs 18 = .bool true := hG 18 (by decide) (by decide)
            have HKE := Lib.hid hI
            clear hG hI
            simp only [setAll, Nat.zero_add, Nat.reduceAdd, List.setIfInBounds_toArray, List.set_cons_zero, List.set_cons_succ, eL18]
            clear eL18
            generalize vs 0 = y0 at *
            generalize vs 1 = y1 at *
            generalize vs 2 = y2 at *
            generalize vs 3 = y3 at *
            generalize vs 4 = y4 at *
            generalize vs 5 = y5 at *
            generalize vs 6 = y6 at *
            generalize vs 7 = y7 at *
            generalize vs 8 = y8 at *
            generalize vs 9 = y9 at *
            generalize vs 10 = y10 at *
            generalize vs 11 = y11 at *
            generalize vs 12 = y12 at *
            generalize vs 13 = y13 at *
            generalize vs 14 = y14 at *
            generalize vs 15 = y15 at *
            generalize vs 16 = y16 at *
            generalize vs 17 = y17 at *
            have HKW := Lib.hid (HKF.out.trans HKE.out)
            clear HKE
            go_wp2_with fail
            go_ret
            exact ⟨rfl, HKW.out⟩
  · have HZ : Hid (((l.length : Int) == 0) = false ∧ decide ((l.length : Int) = 0) = false) := ⟨beq_false_of_ne (by omega), decide_eq_false (by omega)⟩
    obtain ⟨kp, hkp⟩ : ∃ kp, kp = l.length - 1 := ⟨_, rfl⟩
    obtain ⟨b1, o1, _, _, rfl, _, q0, _⟩ := ent_cell (EntsAt.keeps H.out HKG.out) (i := kp) (by omega)
    have Q0 := Lib.hid q0
    clear q0
    have HW1 : Hid ((l.length : Int) - 1 = (kp : Int) ∧ IntKind.i64.wrap (kp : Int) = (kp : Int)) := ⟨by omega, IntWalk.i64_in _ (by omega)⟩
    have HW2 : Hid ((0 : Int) ≤ (kp : Int) ∧ (kp : Int) < (l.length : Int)) := ⟨by omega, by omega⟩
    cases hls : lessT (eAt l kp).n xn with
    | true =>
      have HAB : Hid (aboveE l ⟨xn, xd, xz, xc⟩ = true) := by show _ = _; unfold aboveE; rw [decide_eq_false h0, ← hkp, hls]; rfl
      have HLS : Hid (Op.bytesLess (eAt l kp).n.toList xn.toList = true) := hls
      have H0 := Lib.hid h0
      clear hls h0 hkp
      generalize (eAt l kp).n = Pn at *
      refine wp_region_stage [30, 31, 32, 33, 34, 35, 36, 37, 38, 39, 40, 41, 42, 43, 44, 6] [[], [0], [1], [2], [3], [3], [3, 5], [3, 6], [3, 4, 7], [3, 8], [3, 9], [3], [3, 11], [3, 10, 12], [3, 13], [14]] [] [0, 0, 0, 0, 0, 0, 0, 0, 0, 0, 0, 0, 0, 0, 0, 0] [] (fun i v _ => nmo4T (some ⟨b1, o1, none⟩) l.length q w.heap.size b1 o1 kp xn Pn i v) (fun w w' => Keeps w w') (fun _ _ w' => Keeps wg w') (by kernel_rfl) (by kernel_rfl) (by kernel_rfl) (by kernel_rfl) (by kernel_rfl) (by kernel_rfl) (by kernel_rfl) ?_ ?_ ?_ ?_ ?_ ?_ ?_
      · exact fun i v w w' c h => h
      · exact fun w => keeps_refl w
      · exact fun i s vs w _ h => h
      · refine ⟨?_, ?_, ?_, ?_, ?_, ?_, ?_, ?_, ?_, ?_, ?_, ?_, ?_, ?_, ?_, ?_, trivial⟩
        · exact fun g b h => by (cases h)
        · exact fun g b h => by (cases h)
        · exact fun g b h => by (cases h)
        · exact fun g b h => by (cases h)
        · exact fun g b h => by (cases h; exact ⟨by decide, fun v w h => h⟩)
        · exact fun g b h => by (cases h; exact ⟨by decide, fun v w h => h⟩)
        · exact fun g b h => by (cases h; exact ⟨by decide, fun v w h => h⟩)
        · exact fun g b h => by (cases h; exact ⟨by decide, fun v w h => h⟩)
        · exact fun g b h => by (cases h; exact ⟨by decide, fun v w h => h⟩)
        · exact fun g b h => by (cases h; exact ⟨by decide, fun v w h => h⟩)
        · exact fun g b h => by (cases h; exact ⟨by decide, fun v w h => h⟩)
        · exact fun g b h => by (cases h; exact ⟨by decide, fun v w h => h⟩)
        · exact fun g b h => by (cases h; exact ⟨by decide, fun v w h => h⟩)
        · exact fun g b h => by (cases h; exact ⟨by decide, fun v w h => h⟩)
        · exact fun g b h => by (cases h)
        · exact fun g b h => by (cases h)
      · exact fun _ _ => keeps_refl wg
      · refine ⟨?_, ?_, ?_, ?_, ?_, ?_, ?_, ?_, ?_, ?_, ?_, ?_, ?_, ?_, ?_, ?_, trivial⟩
        · intro _ a w1 vs hI ho hn hu K hK
          have e0 : a.tmps[0]? = some (.slice (some ⟨b1, o1, none⟩) l.length q) := ho 0 rfl
          clear hn ho hu
          go_simp
          exact hK _ _ (keeps_refl _) hI rfl
        · intro _ a w1 vs hI ho hn hu K hK
          obtain ⟨e30, g30⟩ : a.tmps[30]? = some (vs 0) ∧ vs 0 = .slice (some ⟨b1, o1, none⟩) l.length q := hn 0 (by decide)
          rw [g30] at e30
          clear g30
          clear hn ho hu
          go_simp
          exact hK _ _ (keeps_refl _) hI rfl
        · intro _ a w1 vs hI ho hn hu K hK
          obtain ⟨e31, g31⟩ : a.tmps[31]? = some (vs 1) ∧ vs 1 = .int .i64 (l.length : Int) := hn 1 (by decide)
          rw [g31] at e31
          clear g31
          clear hn ho hu
          have i1 := HZ.out.1
          have i2 := HZ.out.2
          go_simp
          exact hK _ _ (keeps_refl _) hI rfl
        · intro _ a w1 vs hI ho hn hu K hK
          obtain ⟨e32, g32⟩ : a.tmps[32]? = some (vs 2) ∧ vs 2 = .bool false := hn 2 (by decide)
          rw [g32] at e32
          clear g32
          clear hn ho hu
          go_simp
          exact hK _ _ (keeps_refl _) hI rfl
        · intro _ a w1 vs hI ho hn hu K hK
          have e0 : a.tmps[0]? = some (.slice (some ⟨b1, o1, none⟩) l.length q) := ho 0 rfl
          clear hn ho hu
          go_simp
          exact hK _ _ (keeps_refl _) hI rfl
        · intro _ a w1 vs hI ho hn hu K hK
          have e0 : a.tmps[0]? = some (.slice (some ⟨b1, o1, none⟩) l.length q) := ho 0 rfl
          clear hn ho hu
          go_simp
          exact hK _ _ (keeps_refl _) hI rfl
        · intro _ a w1 vs hI ho hn hu K hK
          obtain ⟨e35, g35⟩ : a.tmps[35]? = some (vs 5) ∧ vs 5 = .slice (some ⟨b1, o1, none⟩) l.length q := hn 5 (by decide)
          rw [g35] at e35
          clear g35
          clear hn ho hu
          go_simp
          exact hK _ _ (keeps_refl _) hI rfl
        · intro _ a w1 vs hI ho hn hu K hK
          obtain ⟨e36, g36⟩ : a.tmps[36]? = some (vs 6) ∧ vs 6 = .int .i64 (l.length : Int) := hn 6 (by decide)
          rw [g36] at e36
          clear g36
          clear hn ho hu
          have i1 := HW1.out.1
          have i2 := HW1.out.2
          go_simp
          exact hK _ _ (keeps_refl _) hI rfl
        · intro _ a w1 vs hI ho hn hu K hK
          obtain ⟨e34, g34⟩ : a.tmps[34]? = some (vs 4) ∧ vs 4 = .slice (some ⟨b1, o1, none⟩) l.length q := hn 4 (by decide)
          rw [g34] at e34
          clear g34
          obtain ⟨e37, g37⟩ : a.tmps[37]? = some (vs 7) ∧ vs 7 = .int .i64 (kp : Int) := hn 7 (by decide)
          rw [g37] at e37
          clear g37
          clear hn ho hu
          have i1 := HW2.out.1
          have i2 := HW2.out.2
          go_simp
          exact hK _ _ (keeps_refl _) hI rfl
        · intro _ a w1 vs hI ho hn hu K hK
          obtain ⟨e38, g38⟩ : a.tmps[38]? = some (vs 8) ∧ vs 8 = .pointer (some ⟨b1, o1 + kp * 4, none⟩) := hn 8 (by decide)
          rw [g38] at e38
          clear g38
          clear hn ho hu
          go_simp
          exact hK _ _ (keeps_refl _) hI rfl
        · intro _ a w1 vs hI ho hn hu K hK
          obtain ⟨e39, g39⟩ : a.tmps[39]? = some (vs 9) ∧ vs 9 = .pointer (some ⟨b1, o1 + kp * 4, none⟩) := hn 9 (by decide)
          rw [g39] at e39
          clear g39
          clear hn ho hu
          have c0 := keeps_cell hI Q0.out
          go_simp
          exact hK _ _ (keeps_refl _) hI rfl
        · intro _ a w1 vs hI ho hn hu K hK
          have e3 : a.tmps[3]? = some (.pointer (some ⟨w.heap.size, 0, none⟩)) := ho 3 rfl
          clear hn ho hu
          go_simp
          exact hK _ _ (keeps_refl _) hI rfl
        · intro _ a w1 vs hI ho hn hu K hK
          obtain ⟨e41, g41⟩ : a.tmps[41]? = some (vs 11) ∧ vs 11 = .pointer (some ⟨w.heap.size, 0, none⟩) := hn 11 (by decide)
          rw [g41] at e41
          clear g41
          clear hn ho hu
          have c0 := keeps_cell hI E0.out
          go_simp
          exact hK _ _ (keeps_refl _) hI rfl
        · intro _ a w1 vs hI ho hn hu K hK
          obtain ⟨e40, g40⟩ : a.tmps[40]? = some (vs 10) ∧ vs 10 = .string Pn := hn 10 (by decide)
          rw [g40] at e40
          clear g40
          obtain ⟨e42, g42⟩ : a.tmps[42]? = some (vs 12) ∧ vs 12 = .string xn := hn 12 (by decide)
          rw [g42] at e42
          clear g42
          clear hn ho hu
          have i1 := HLS.out
          go_simp
          exact hK _ _ (keeps_refl _) hI rfl
        · intro _ a w1 vs hI ho hn hu K hK
          obtain ⟨e33, g33⟩ : a.tmps[33]? = some (vs 3) ∧ vs 3 = .bool false := hn 3 (by decide)
          rw [g33] at e33
          clear g33
          obtain ⟨e43, g43⟩ : a.tmps[43]? = some (vs 13) ∧ vs 13 = .bool true := hn 13 (by decide)
          rw [g43] at e43
          clear g43
          clear hn ho hu
          go_simp
          exact hK _ _ (keeps_refl _) hI rfl
        · intro _ a w1 vs hI ho hn hu K hK
          obtain ⟨e44, g44⟩ : a.tmps[44]? = some (vs 14) ∧ vs 14 = .bool true := hn 14 (by decide)
          rw [g44] at e44
          clear g44
          clear hn ho hu
          go_simp
          exact hK _ _ (keeps_refl _) hI rfl
      · intro vs wE hI hG
        have eL15 : vs 15 = .bool true := hG 15 (by decide)
        have HKE := Lib.hid hI
        clear hG hI
        simp only [setAll, Nat.zero_add, Nat.reduceAdd, List.setIfInBounds_toArray, List.set_cons_zero, List.set_cons_succ, eL15]
        clear eL15
        generalize vs 0 = y0 at *
        generalize vs 1 = y1 at *
        generalize vs 2 = y2 at *
        generalize vs 3 = y3 at *
        generalize vs 4 = y4 at *
        generalize vs 5 = y5 at *
        generalize vs 6 = y6 at *
        generalize vs 7 = y7 at *
        generalize vs 8 = y8 at *
        generalize vs 9 = y9 at *
        generalize vs 10 = y10 at *
        generalize vs 11 = y11 at *
        generalize vs 12 = y12 at *
        generalize vs 13 = y13 at *
        generalize vs 14 = y14 at *
        have HKF := Lib.hid (HKG.out.trans HKE.out)
        have HBF := Lib.hid (HBG.out.keeps HKE.out)
        clear HKE E0
        generalize wE = wf at *
        have H6 := Lib.hid (EntsAt.keeps H.out HKF.out)
        obtain ⟨us, hu1, hu2, hu3, hu4, hu5⟩ := ents_cells H6.out
        have HOW : Hid (∀ v' w', w'.ownsRow wf.heap.size 40 4 v' (l.length + 1) (us.flatten ++ [.string xn, .bool xd, .int .i64 xz, .slice pc xc.length qc]) → Keeps wf w' → EntsAt w'.heap v' (l ++ [⟨xn, xd, xz, xc⟩])) := fun v' w' ho hk => ents_push hu1 hu3 ho hk rfl (SeqAt.keeps HCX.out HKF.out) HQX.out (by omega)
        have HFL := Lib.hid hu2
        have HFC := Lib.hid hu5
        clear hu1 hu2 hu3 hu4 hu5
        have E0 := Lib.hid (HBF.out.cell (i := 0) rfl)
        have E1 := Lib.hid (HBF.out.cell (i := 1) rfl)
        have E2 := Lib.hid (HBF.out.cell (i := 2) rfl)
        have E3 := Lib.hid (HBF.out.cell (i := 3) rfl)
        go_wp2_with fail
        have HMM := Lib.hid (HMO.out.trans (by rw [HAB.out]))
        cases hone : mayL [⟨xn, xd, xz, xc⟩] with
        | false =>
          have HM : Hid (mayL (l ++ [⟨xn, xd, xz, xc⟩]) = false) := by show _ = _; rw [HMM.out, hone]; rfl
          clear hone
          refine wp_region_lineG [45, 46, 47, 48, 49, 50, 51, 52, 53, 54, 55, 56, 57, 58, 59, 60, 61, 62, 4] [[], [], [0, 1], [], [3], [2, 4], [5], [6], [], [8], [9], [9, 10], [11], [12], [12], [12], [12, 15], [7, 16], [17]] [[], [], [0], [], [], [0, 2, 4], [], [], [], [], [], [], [], [], [], [], [], [], []] [10, 13, 14, 15] (nmo5ftt (some ⟨b1, o1, none⟩) l.length q w.heap.size wf.heap.size xc.length qc pc xn xd xz us.flatten (l ++ [⟨xn, xd, xz, xc⟩])) (by kernel_rfl) (by kernel_rfl) (by kernel_rfl) (by kernel_rfl) (by kernel_rfl) (by kernel_rfl) ?_ ?_ ?_
          · refine ⟨?_, ?_, ?_, ?_, ?_, ?_, ?_, ?_, ?_, ?_, ?_, ?_, ?_, ?_, ?_, ?_, ?_, ?_, ?_, trivial⟩
            · exact fun g b h => by (cases h)
            · exact fun g b h => by (cases h)
            · exact fun g b h => by (cases h)
            · exact fun g b h => by (cases h)
            · exact fun g b h => by (cases h)
            · exact fun g b h => by (cases h)
            · exact fun g b h => by (cases h)
            · exact fun g b h => by (cases h)
            · exact fun g b h => by (cases h)
            · exact fun g b h => by (cases h)
            · exact ⟨⟨_, _, rfl, by decide, fun v w h => by (first | (change v = _ at h; subst h; intro x; cases x) | skip)⟩, fun w => rfl⟩
            · exact fun g b h => by (cases h)
            · exact fun g b h => by (cases h)
            · exact ⟨⟨_, _, rfl, by decide, fun v w h => by (first | (change v = _ at h; subst h; intro x; cases x) | skip)⟩, fun w => rfl⟩
            · exact ⟨⟨_, _, rfl, by decide, fun v w h => by (first | (change v = _ at h; subst h; intro x; cases x) | skip)⟩, fun w => rfl⟩
            · exact ⟨⟨_, _, rfl, by decide, fun v w h => by (first | (change v = _ at h; subst h; intro x; cases x) | skip)⟩, fun w => rfl⟩
            · exact fun g b h => by (cases h)
            · exact fun g b h => by (cases h)
            · exact fun g b h => by (cases h)
          · refine ⟨?_, ?_, ?_, ?_, ?_, ?_, ?_, ?_, ?_, ?_, ?_, ?_, ?_, ?_, ?_, ?_, ?_, ?_, ?_, trivial⟩
            · intro _ a w1 vs hk ho hn K hK
              clear hn ho
              go_simp
              have KK := kal w1 (.cells #[] 40)
              exact hK _ _ (hk.trans KK) (fun j u _ _ _ _ h => nmo5ftt_kp j u _ _ KK h) ⟨_, rfl, own_empty0 w1 wf.heap.size 40 4 hk.size⟩
            · intro _ a w1 vs hk ho hn K hK
              have e0 : a.tmps[0]? = some (.slice (some ⟨b1, o1, none⟩) l.length q) := ho 0 rfl
              clear hn ho
              go_simp
              exact hK _ _ hk (fun _ _ _ _ _ _ h => h) rfl
            · intro _ a w1 vs hk ho hn K hK
              obtain ⟨e45, g45⟩ : a.tmps[45]? = some (vs 0) ∧ ∃ g, (vs 0) = .slice (some ⟨g, 0, none⟩) 0 0 ∧ w1.ownsRow wf.heap.size 40 4 (vs 0) 0 [] := hn 0 (by decide)
              obtain ⟨e46, g46⟩ : a.tmps[46]? = some (vs 1) ∧ vs 1 = .slice (some ⟨b1, o1, none⟩) l.length q := hn 1 (by decide)
              rw [g46] at e46
              clear g46
              clear hn ho
              obtain ⟨g, r, ow⟩ := g45
              rw [r] at e45 ow
              refine oper_freshR elEntT rfl (.tmp 45) (.tmp 46) rfl g wf.heap.size (by simp [Act.eval, e45]) ow hk.size (some ⟨b1, o1, none⟩) l.length q us.flatten (by simp [Act.eval, e46]) HFL.out (fun h0 => let ⟨b, o, e, hc⟩ := HFC.out h0; ⟨b, o, e, fun j hj => keeps_cell hk (hc j hj)⟩) (by omega) ?_
              intro v' w' ow2 KK
              exact hK v' w' (hk.trans KK) (fun j u _ _ _ _ h => nmo5ftt_kp j u _ _ KK h) ow2
            · intro _ a w1 vs hk ho hn K hK
              have e3 : a.tmps[3]? = some (.pointer (some ⟨w.heap.size, 0, none⟩)) := ho 3 rfl
              clear hn ho
              have c0 := keeps_cell hk E0.out
              have c1 := keeps_cell hk E1.out
              have c2 := keeps_cell hk E2.out
              have c3 := keeps_cell hk E3.out
              go_simp
              exact hK _ _ hk (fun _ _ _ _ _ _ h => h) rfl
            · intro _ a w1 vs hk ho hn K hK
              obtain ⟨e48, g48⟩ : a.tmps[48]? = some (vs 3) ∧ vs 3 = .agg #[.string xn, .bool xd, .int .i64 xz, .slice pc xc.length qc] := hn 3 (by decide)
              rw [g48] at e48
              clear g48
              clear hn ho
              go_simp
              have KK := kal w1 (.cells #[.string xn, .bool xd, .int .i64 xz, .slice pc xc.length qc] 40)
              exact hK _ _ (hk.trans KK) (fun j u _ _ _ _ h => nmo5ftt_kp j u _ _ KK h) ⟨_, rfl, BlkAt.new _ _ _⟩
            · intro _ a w1 vs hk ho hn K hK
              obtain ⟨e47, g47⟩ : a.tmps[47]? = some (vs 2) ∧ w1.ownsRow wf.heap.size 40 4 (vs 2) l.length us.flatten := hn 2 (by decide)
              obtain ⟨e49, g49⟩ : a.tmps[49]? = some (vs 4) ∧ ∃ b, (vs 4) = .slice (some ⟨b, 0, none⟩) 1 1 ∧ BlkAt w1 b 40 #[.string xn, .bool xd, .int .i64 xz, .slice pc xc.length qc] := hn 4 (by decide)
              clear hn ho
              obtain ⟨b, r, hb⟩ := g49
              rw [r] at e49
              refine oper_appr1 elEntT rfl (.tmp 47) (.tmp 49) rfl wf.heap.size (vs 2) l.length us.flatten (by simp [Act.eval, e47]) g47 b [.string xn, .bool xd, .int .i64 xz, .slice pc xc.length qc] (by simp [Act.eval, e49]) rfl (blk_cells hb) (by intro y hy; simp at hy; rcases hy with rfl | rfl | rfl | rfl <;> rfl) (by omega) hk.size ?_
              intro v' w' ho hc
              have KK : Keeps wf w' := hk.then (chg_kept (B := wf.heap.size) hc (fun q _ e => (own_blockK g47 q e).1) hk.size) (Nat.le_refl _)
              exact hK v' w' KK (fun j u h1 h2 h3 _ h => nmo5ftt_sp j u _ _ h1 h2 (fun e => by subst e; cases h3) h) (HOW.out v' w' ho KK)
            · intro _ a w1 vs hk ho hn K hK
              obtain ⟨e50, g50⟩ : a.tmps[50]? = some (vs 5) ∧ EntsAt w1.heap (vs 5) (l ++ [⟨xn, xd, xz, xc⟩]) := hn 5 (by decide)
              clear hn ho
              go_simp
              refine Calls.mono (given_any _ ((l ++ [⟨xn, xd, xz, xc⟩])) _ g50 HNUM.out) ?_
              rintro e w' ⟨v', rfl, h1, KK⟩
              go_simp
              exact hK _ _ (hk.trans KK) (fun j u _ _ _ _ h => nmo5ftt_kp j u _ _ KK h) h1
            · intro _ a w1 vs hk ho hn K hK
              obtain ⟨e51, g51⟩ : a.tmps[51]? = some (vs 6) ∧ EntsAt w1.heap (vs 6) (l ++ [⟨xn, xd, xz, xc⟩]) := hn 6 (by decide)
              clear hn ho
              go_simp
              refine Calls.mono (nmay_any _ ((l ++ [⟨xn, xd, xz, xc⟩])) _ g51) ?_
              rintro e w' ⟨rfl, KK⟩
              rw [HM.out]
              go_simp
              exact hK _ _ (hk.trans KK) (fun j u _ _ _ _ h => nmo5ftt_kp j u _ _ KK h) rfl
            · intro _ a w1 vs hk ho hn K hK
              have e5 : a.tmps[5]? = some (.bool false) := ho 5 rfl
              clear hn ho
              go_simp
              exact hK _ _ hk (fun _ _ _ _ _ _ h => h) rfl
            · intro _ a w1 vs hk ho hn K hK
              obtain ⟨e53, g53⟩ : a.tmps[53]? = some (vs 8) ∧ vs 8 = .bool false := hn 8 (by decide)
              rw [g53] at e53
              clear g53
              clear hn ho
              go_simp
              exact hK _ _ hk (fun _ _ _ _ _ _ h => h) rfl
            · intro hs; cases hs
            · intro _ a w1 vs hk ho hn K hK
              obtain ⟨e54, g54⟩ : a.tmps[54]? = some (vs 9) ∧ vs 9 = .bool false := hn 9 (by decide)
              rw [g54] at e54
              clear g54
              obtain ⟨e55, g55⟩ : a.tmps[55]? = some (vs 10) ∧ vs 10 = undef := hn 10 (by decide)
              rw [g55] at e55
              clear g55
              clear hn ho
              go_simp
              exact hK _ _ hk (fun _ _ _ _ _ _ h => h) rfl
            · intro _ a w1 vs hk ho hn K hK
              obtain ⟨e56, g56⟩ : a.tmps[56]? = some (vs 11) ∧ vs 11 = .bool false := hn 11 (by decide)
              rw [g56] at e56
              clear g56
              clear hn ho
              go_simp
              exact hK _ _ hk (fun _ _ _ _ _ _ h => h) rfl
            · intro hs; cases hs
            · intro hs; cases hs
            · intro hs; cases hs
            · intro _ a w1 vs hk ho hn K hK
              obtain ⟨e57, g57⟩ : a.tmps[57]? = some (vs 12) ∧ vs 12 = .bool false := hn 12 (by decide)
              rw [g57] at e57
              clear g57
              obtain ⟨e60, g60⟩ : a.tmps[60]? = some (vs 15) ∧ vs 15 = undef := hn 15 (by decide)
              rw [g60] at e60
              clear g60
              clear hn ho
              go_simp
              exact hK _ _ hk (fun _ _ _ _ _ _ h => h) rfl
            · intro _ a w1 vs hk ho hn K hK
              obtain ⟨e52, g52⟩ : a.tmps[52]? = some (vs 7) ∧ vs 7 = .bool false := hn 7 (by decide)
              rw [g52] at e52
              clear g52
              obtain ⟨e61, g61⟩ : a.tmps[61]? = some (vs 16) ∧ vs 16 = .bool false := hn 16 (by decide)
              rw [g61] at e61
              clear g61
              clear hn ho
              go_simp
              exact hK _ _ hk (fun _ _ _ _ _ _ h => h) rfl
            · intro _ a w1 vs hk ho hn K hK
              obtain ⟨e62, g62⟩ : a.tmps[62]? = some (vs 17) ∧ vs 17 = .bool true := hn 17 (by decide)
              rw [g62] at e62
              clear g62
              clear hn ho
              go_simp
              exact hK _ _ hk (fun _ _ _ _ _ _ h => h) rfl
          · intro vs wE hI hG
            have eL18 : vs 18 = .bool true := hG 18 (by decide) (by decide)
            have HKE := Lib.hid hI
            clear hG hI
            simp only [setAll, Nat.zero_add, Nat.reduceAdd, List.setIfInBounds_toArray, List.set_cons_zero, List.set_cons_succ, eL18]
            clear eL18
            generalize vs 0 = y0 at *
            generalize vs 1 = y1 at *
            generalize vs 2 = y2 at *
            generalize vs 3 = y3 at *
            generalize vs 4 = y4 at *
            generalize vs 5 = y5 at *
            generalize vs 6 = y6 at *
            generalize vs 7 = y7 at *
            generalize vs 8 = y8 at *
            generalize vs 9 = y9 at *
            generalize vs 10 = y10 at *
            generalize vs 11 = y11 at *
            generalize vs 12 = y12 at *
            generalize vs 13 = y13 at *
            generalize vs 14 = y14 at *
            generalize vs 15 = y15 at *
            generalize vs 16 = y16 at *
            generalize vs 17 = y17 at *
            have HKW := Lib.hid (HKF.out.trans HKE.out)
            clear HKE
            go_wp2_with fail
            go_ret
            exact ⟨rfl, HKW.out⟩
        | true =>
          by_cases hlt : l.length < 256
          · have HM : Hid (mayL (l ++ [⟨xn, xd, xz, xc⟩]) = true) := by show _ = _; rw [HMM.out, hone, decide_eq_true hlt]; rfl
            have HLT : Hid (decide ((l.length : Int) < 256) = true) := decide_eq_true (by omega)
            clear hone hlt
            refine wp_region_lineG [45, 46, 47, 48, 49, 50, 51, 52, 53, 54, 55, 56, 57, 58, 59, 60, 61, 62, 4] [[], [], [0, 1], [], [3], [2, 4], [5], [6], [], [8], [9], [9, 10], [11], [12], [12, 13], [12, 14], [12, 15], [7, 16], [17]] [[], [], [0], [], [], [0, 2, 4], [], [], [], [], [], [], [], [], [], [], [], [], []] [] (nmo5ttt (some ⟨b1, o1, none⟩) l.length q w.heap.size wf.heap.size xc.length qc pc xn xd xz us.flatten (l ++ [⟨xn, xd, xz, xc⟩])) (by kernel_rfl) (by kernel_rfl) (by kernel_rfl) (by kernel_rfl) (by kernel_rfl) (by kernel_rfl) ?_ ?_ ?_
            · refine ⟨?_, ?_, ?_, ?_, ?_, ?_, ?_, ?_, ?_, ?_, ?_, ?_, ?_, ?_, ?_, ?_, ?_, ?_, ?_, trivial⟩
              · exact fun g b h => by (cases h)
              · exact fun g b h => by (cases h)
              · exact fun g b h => by (cases h)
              · exact fun g b h => by (cases h)
              · exact fun g b h => by (cases h)
              · exact fun g b h => by (cases h)
              · exact fun g b h => by (cases h)
              · exact fun g b h => by (cases h)
              · exact fun g b h => by (cases h)
              · exact fun g b h => by (cases h)
              · exact fun g b h => by (cases h; exact ⟨by decide, fun v w h => h⟩)
              · exact fun g b h => by (cases h)
              · exact fun g b h => by (cases h)
              · exact fun g b h => by (cases h; exact ⟨by decide, fun v w h => h⟩)
              · exact fun g b h => by (cases h; exact ⟨by decide, fun v w h => h⟩)
              · exact fun g b h => by (cases h; exact ⟨by decide, fun v w h => h⟩)
              · exact fun g b h => by (cases h)
              · exact fun g b h => by (cases h)
              · exact fun g b h => by (cases h)
            · refine ⟨?_, ?_, ?_, ?_, ?_, ?_, ?_, ?_, ?_, ?_, ?_, ?_, ?_, ?_, ?_, ?_, ?_, ?_, ?_, trivial⟩
              · intro _ a w1 vs hk ho hn K hK
                clear hn ho
                go_simp
                have KK := kal w1 (.cells #[] 40)
                exact hK _ _ (hk.trans KK) (fun j u _ _ _ _ h => nmo5ttt_kp j u _ _ KK h) ⟨_, rfl, own_empty0 w1 wf.heap.size 40 4 hk.size⟩
              · intro _ a w1 vs hk ho hn K hK
                have e0 : a.tmps[0]? = some (.slice (some ⟨b1, o1, none⟩) l.length q) := ho 0 rfl
                clear hn ho
                go_simp
                exact hK _ _ hk (fun _ _ _ _ _ _ h => h) rfl
              · intro _ a w1 vs hk ho hn K hK
                obtain ⟨e45, g45⟩ : a.tmps[45]? = some (vs 0) ∧ ∃ g, (vs 0) = .slice (some ⟨g, 0, none⟩) 0 0 ∧ w1.ownsRow wf.heap.size 40 4 (vs 0) 0 [] := hn 0 (by decide)
                obtain ⟨e46, g46⟩ : a.tmps[46]? = some (vs 1) ∧ vs 1 = .slice (some ⟨b1, o1, none⟩) l.length q := hn 1 (by decide)
                rw [g46] at e46
                clear g46
                clear hn ho
                obtain ⟨g, r, ow⟩ := g45
                rw [r] at e45 ow
                refine oper_freshR elEntT rfl (.tmp 45) (.tmp 46) rfl g wf.heap.size (by simp [Act.eval, e45]) ow hk.size (some ⟨b1, o1, none⟩) l.length q us.flatten (by simp [Act.eval, e46]) HFL.out (fun h0 => let ⟨b, o, e, hc⟩ := HFC.out h0; ⟨b, o, e, fun j hj => keeps_cell hk (hc j hj)⟩) (by omega) ?_
                intro v' w' ow2 KK
                exact hK v' w' (hk.trans KK) (fun j u _ _ _ _ h => nmo5ttt_kp j u _ _ KK h) ow2
              · intro _ a w1 vs hk ho hn K hK
                have e3 : a.tmps[3]? = some (.pointer (some ⟨w.heap.size, 0, none⟩)) := ho 3 rfl
                clear hn ho
                have c0 := keeps_cell hk E0.out
                have c1 := keeps_cell hk E1.out
                have c2 := keeps_cell hk E2.out
                have c3 := keeps_cell hk E3.out
                go_simp
                exact hK _ _ hk (fun _ _ _ _ _ _ h => h) rfl
              · intro _ a w1 vs hk ho hn K hK
                obtain ⟨e48, g48⟩ : a.tmps[48]? = some (vs 3) ∧ vs 3 = .agg #[.string xn, .bool xd, .int .i64 xz, .slice pc xc.length qc] := hn 3 (by decide)
                rw [g48] at e48
                clear g48
                clear hn ho
                go_simp
                have KK := kal w1 (.cells #[.string xn, .bool xd, .int .i64 xz, .slice pc xc.length qc] 40)
                exact hK _ _ (hk.trans KK) (fun j u _ _ _ _ h => nmo5ttt_kp j u _ _ KK h) ⟨_, rfl, BlkAt.new _ _ _⟩
              · intro _ a w1 vs hk ho hn K hK
                obtain ⟨e47, g47⟩ : a.tmps[47]? = some (vs 2) ∧ w1.ownsRow wf.heap.size 40 4 (vs 2) l.length us.flatten := hn 2 (by decide)
                obtain ⟨e49, g49⟩ : a.tmps[49]? = some (vs 4) ∧ ∃ b, (vs 4) = .slice (some ⟨b, 0, none⟩) 1 1 ∧ BlkAt w1 b 40 #[.string xn, .bool xd, .int .i64 xz, .slice pc xc.length qc] := hn 4 (by decide)
                clear hn ho
                obtain ⟨b, r, hb⟩ := g49
                rw [r] at e49
                refine oper_appr1 elEntT rfl (.tmp 47) (.tmp 49) rfl wf.heap.size (vs 2) l.length us.flatten (by simp [Act.eval, e47]) g47 b [.string xn, .bool xd, .int .i64 xz, .slice pc xc.length qc] (by simp [Act.eval, e49]) rfl (blk_cells hb) (by intro y hy; simp at hy; rcases hy with rfl | rfl | rfl | rfl <;> rfl) (by omega) hk.size ?_
                intro v' w' ho hc
                have KK : Keeps wf w' := hk.then (chg_kept (B := wf.heap.size) hc (fun q _ e => (own_blockK g47 q e).1) hk.size) (Nat.le_refl _)
                exact hK v' w' KK (fun j u h1 h2 h3 _ h => nmo5ttt_sp j u _ _ h1 h2 (fun e => by subst e; cases h3) h) (HOW.out v' w' ho KK)
              · intro _ a w1 vs hk ho hn K hK
                obtain ⟨e50, g50⟩ : a.tmps[50]? = some (vs 5) ∧ EntsAt w1.heap (vs 5) (l ++ [⟨xn, xd, xz, xc⟩]) := hn 5 (by decide)
                clear hn ho
                go_simp
                refine Calls.mono (given_any _ ((l ++ [⟨xn, xd, xz, xc⟩])) _ g50 HNUM.out) ?_
                rintro e w' ⟨v', rfl, h1, KK⟩
                go_simp
                exact hK _ _ (hk.trans KK) (fun j u _ _ _ _ h => nmo5ttt_kp j u _ _ KK h) h1
              · intro _ a w1 vs hk ho hn K hK
                obtain ⟨e51, g51⟩ : a.tmps[51]? = some (vs 6) ∧ EntsAt w1.heap (vs 6) (l ++ [⟨xn, xd, xz, xc⟩]) := hn 6 (by decide)
                clear hn ho
                go_simp
                refine Calls.mono (nmay_any _ ((l ++ [⟨xn, xd, xz, xc⟩])) _ g51) ?_
                rintro e w' ⟨rfl, KK⟩
                rw [HM.out]
                go_simp
                exact hK _ _ (hk.trans KK) (fun j u _ _ _ _ h => nmo5ttt_kp j u _ _ KK h) rfl
              · intro _ a w1 vs hk ho hn K hK
                have e5 : a.tmps[5]? = some (.bool true) := ho 5 rfl
                clear hn ho
                go_simp
                exact hK _ _ hk (fun _ _ _ _ _ _ h => h) rfl
              · intro _ a w1 vs hk ho hn K hK
                obtain ⟨e53, g53⟩ : a.tmps[53]? = some (vs 8) ∧ vs 8 = .bool true := hn 8 (by decide)
                rw [g53] at e53
                clear g53
                clear hn ho
                go_simp
                exact hK _ _ hk (fun _ _ _ _ _ _ h => h) rfl
              · intro _ a w1 vs hk ho hn K hK
                have e6 : a.tmps[6]? = some (.bool true) := ho 6 rfl
                clear hn ho
                go_simp
                exact hK _ _ hk (fun _ _ _ _ _ _ h => h) rfl
              · intro _ a w1 vs hk ho hn K hK
                obtain ⟨e54, g54⟩ : a.tmps[54]? = some (vs 9) ∧ vs 9 = .bool true := hn 9 (by decide)
                rw [g54] at e54
                clear g54
                obtain ⟨e55, g55⟩ : a.tmps[55]? = some (vs 10) ∧ vs 10 = .bool true := hn 10 (by decide)
                rw [g55] at e55
                clear g55
                clear hn ho
                go_simp
                exact hK _ _ hk (fun _ _ _ _ _ _ h => h) rfl
              · intro _ a w1 vs hk ho hn K hK
                obtain ⟨e56, g56⟩ : a.tmps[56]? = some (vs 11) ∧ vs 11 = .bool true := hn 11 (by decide)
                rw [g56] at e56
                clear g56
                clear hn ho
                go_simp
                exact hK _ _ hk (fun _ _ _ _ _ _ h => h) rfl
              · intro _ a w1 vs hk ho hn K hK
                have e0 : a.tmps[0]? = some (.slice (some ⟨b1, o1, none⟩) l.length q) := ho 0 rfl
                clear hn ho
                go_simp
                exact hK _ _ hk (fun _ _ _ _ _ _ h => h) rfl
              · intro _ a w1 vs hk ho hn K hK
                obtain ⟨e58, g58⟩ : a.tmps[58]? = some (vs 13) ∧ vs 13 = .slice (some ⟨b1, o1, none⟩) l.length q := hn 13 (by decide)
                rw [g58] at e58
                clear g58
                clear hn ho
                go_simp
                exact hK _ _ hk (fun _ _ _ _ _ _ h => h) rfl
              · intro _ a w1 vs hk ho hn K hK
                obtain ⟨e59, g59⟩ : a.tmps[59]? = some (vs 14) ∧ vs 14 = .int .i64 (l.length : Int) := hn 14 (by decide)
                rw [g59] at e59
                clear g59
                clear hn ho
                have i1 := HLT.out
                go_simp
                exact hK _ _ hk (fun _ _ _ _ _ _ h => h) rfl
              · intro _ a w1 vs hk ho hn K hK
                obtain ⟨e57, g57⟩ : a.tmps[57]? = some (vs 12) ∧ vs 12 = .bool true := hn 12 (by decide)
                rw [g57] at e57
                clear g57
                obtain ⟨e60, g60⟩ : a.tmps[60]? = some (vs 15) ∧ vs 15 = .bool true := hn 15 (by decide)
                rw [g60] at e60
                clear g60
                clear hn ho
                go_simp
                exact hK _ _ hk (fun _ _ _ _ _ _ h => h) rfl
              · intro _ a w1 vs hk ho hn K hK
                obtain ⟨e52, g52⟩ : a.tmps[52]? = some (vs 7) ∧ vs 7 = .bool true := hn 7 (by decide)
                rw [g52] at e52
                clear g52
                obtain ⟨e61, g61⟩ : a.tmps[61]? = some (vs 16) ∧ vs 16 = .bool true := hn 16 (by decide)
                rw [g61] at e61
                clear g61
                clear hn ho
                go_simp
                exact hK _ _ hk (fun _ _ _ _ _ _ h => h) rfl
              · intro _ a w1 vs hk ho hn K hK
                obtain ⟨e62, g62⟩ : a.tmps[62]? = some (vs 17) ∧ vs 17 = .bool true := hn 17 (by decide)
                rw [g62] at e62
                clear g62
                clear hn ho
                go_simp
                exact hK _ _ hk (fun _ _ _ _ _ _ h => h) rfl
            · intro vs wE hI hG
              have eL18 : vs 18 = .bool true := hG 18 (by decide) (by decide)
              have HKE := Lib.hid hI
              clear hG hI
              simp only [setAll, Nat.zero_add, Nat.reduceAdd, List.setIfInBounds_toArray, List.set_cons_zero, List.set_cons_succ, eL18]
              clear eL18
              generalize vs 0 = y0 at *
              generalize vs 1 = y1 at *
              generalize vs 2 = y2 at *
              generalize vs 3 = y3 at *
              generalize vs 4 = y4 at *
              generalize vs 5 = y5 at *
              generalize vs 6 = y6 at *
              generalize vs 7 = y7 at *
              generalize vs 8 = y8 at *
              generalize vs 9 = y9 at *
              generalize vs 10 = y10 at *
              generalize vs 11 = y11 at *
              generalize vs 12 = y12 at *
              generalize vs 13 = y13 at *
              generalize vs 14 = y14 at *
              generalize vs 15 = y15 at *
              generalize vs 16 = y16 at *
              generalize vs 17 = y17 at *
              have HKW := Lib.hid (HKF.out.trans HKE.out)
              clear HKE
              go_wp2_with fail
              go_ret
              exact ⟨rfl, HKW.out⟩
          · have HM : Hid (mayL (l ++ [⟨xn, xd, xz, xc⟩]) = false) := by show _ = _; rw [HMM.out, hone, decide_eq_false hlt]; rfl
            have HLT : Hid (decide ((l.length : Int) < 256) = false) := decide_eq_false (by omega)
            clear hone hlt
            refine wp_region_lineG [45, 46, 47, 48, 49, 50, 51, 52, 53, 54, 55, 56, 57, 58, 59, 60, 61, 62, 4] [[], [], [0, 1], [], [3], [2, 4], [5], [6], [], [8], [9], [9, 10], [11], [12], [12, 13], [12, 14], [12, 15], [7, 16], [17]] [[], [], [0], [], [], [0, 2, 4], [], [], [], [], [], [], [], [], [], [], [], [], []] [] (nmo5ttf (some ⟨b1, o1, none⟩) l.length q w.heap.size wf.heap.size xc.length qc pc xn xd xz us.flatten (l ++ [⟨xn, xd, xz, xc⟩])) (by kernel_rfl) (by kernel_rfl) (by kernel_rfl) (by kernel_rfl) (by kernel_rfl) (by kernel_rfl) ?_ ?_ ?_
            · refine ⟨?_, ?_, ?_, ?_, ?_, ?_, ?_, ?_, ?_, ?_, ?_, ?_, ?_, ?_, ?_, ?_, ?_, ?_, ?_, trivial⟩
              · exact fun g b h => by (cases h)
              · exact fun g b h => by (cases h)
              · exact fun g b h => by (cases h)
              · exact fun g b h => by (cases h)
              · exact fun g b h => by (cases h)
              · exact fun g b h => by (cases h)
              · exact fun g b h => by (cases h)
              · exact fun g b h => by (cases h)
              · exact fun g b h => by (cases h)
              · exact fun g b h => by (cases h)
              · exact fun g b h => by (cases h; exact ⟨by decide, fun v w h => h⟩)
              · exact fun g b h => by (cases h)
              · exact fun g b h => by (cases h)
              · exact fun g b h => by (cases h; exact ⟨by decide, fun v w h => h⟩)
              · exact fun g b h => by (cases h; exact ⟨by decide, fun v w h => h⟩)
              · exact fun g b h => by (cases h; exact ⟨by decide, fun v w h => h⟩)
              · exact fun g b h => by (cases h)
              · exact fun g b h => by (cases h)
              · exact fun g b h => by (cases h)
            · refine ⟨?_, ?_, ?_, ?_, ?_, ?_, ?_, ?_, ?_, ?_, ?_, ?_, ?_, ?_, ?_, ?_, ?_, ?_, ?_, trivial⟩
              · intro _ a w1 vs hk ho hn K hK
                clear hn ho
                go_simp
                have KK := kal w1 (.cells #[] 40)
                exact hK _ _ (hk.trans KK) (fun j u _ _ _ _ h => nmo5ttf_kp j u _ _ KK h) ⟨_, rfl, own_empty0 w1 wf.heap.size 40 4 hk.size⟩
              · intro _ a w1 vs hk ho hn K hK
                have e0 : a.tmps[0]? = some (.slice (some ⟨b1, o1, none⟩) l.length q) := ho 0 rfl
                clear hn ho
                go_simp
                exact hK _ _ hk (fun _ _ _ _ _ _ h => h) rfl
              · intro _ a w1 vs hk ho hn K hK
                obtain ⟨e45, g45⟩ : a.tmps[45]? = some (vs 0) ∧ ∃ g, (vs 0) = .slice (some ⟨g, 0, none⟩) 0 0 ∧ w1.ownsRow wf.heap.size 40 4 (vs 0) 0 [] := hn 0 (by decide)
                obtain ⟨e46, g46⟩ : a.tmps[46]? = some (vs 1) ∧ vs 1 = .slice (some ⟨b1, o1, none⟩) l.length q := hn 1 (by decide)
                rw [g46] at e46
                clear g46
                clear hn ho
                obtain ⟨g, r, ow⟩ := g45
                rw [r] at e45 ow
                refine oper_freshR elEntT rfl (.tmp 45) (.tmp 46) rfl g wf.heap.size (by simp [Act.eval, e45]) ow hk.size (some ⟨b1, o1, none⟩) l.length q us.flatten (by simp [Act.eval, e46]) HFL.out (fun h0 => let ⟨b, o, e, hc⟩ := HFC.out h0; ⟨b, o, e, fun j hj => keeps_cell hk (hc j hj)⟩) (by omega) ?_
                intro v' w' ow2 KK
                exact hK v' w' (hk.trans KK) (fun j u _ _ _ _ h => nmo5ttf_kp j u _ _ KK h) ow2
              · intro _ a w1 vs hk ho hn K hK
                have e3 : a.tmps[3]? = some (.pointer (some ⟨w.heap.size, 0, none⟩)) := ho 3 rfl
                clear hn ho
                have c0 := keeps_cell hk E0.out
                have c1 := keeps_cell hk E1.out
                have c2 := keeps_cell hk E2.out
                have c3 := keeps_cell hk E3.out
                go_simp
                exact hK _ _ hk (fun _ _ _ _ _ _ h => h) rfl
              · intro _ a w1 vs hk ho hn K hK
                obtain ⟨e48, g48⟩ : a.tmps[48]? = some (vs 3) ∧ vs 3 = .agg #[.string xn, .bool xd, .int .i64 xz, .slice pc xc.length qc] := hn 3 (by decide)
                rw [g48] at e48
                clear g48
                clear hn ho
                go_simp
                have KK := kal w1 (.cells #[.string xn, .bool xd, .int .i64 xz, .slice pc xc.length qc] 40)
                exact hK _ _ (hk.trans KK) (fun j u _ _ _ _ h => nmo5ttf_kp j u _ _ KK h) ⟨_, rfl, BlkAt.new _ _ _⟩
              · intro _ a w1 vs hk ho hn K hK
                obtain ⟨e47, g47⟩ : a.tmps[47]? = some (vs 2) ∧ w1.ownsRow wf.heap.size 40 4 (vs 2) l.length us.flatten := hn 2 (by decide)
                obtain ⟨e49, g49⟩ : a.tmps[49]? = some (vs 4) ∧ ∃ b, (vs 4) = .slice (some ⟨b, 0, none⟩) 1 1 ∧ BlkAt w1 b 40 #[.string xn, .bool xd, .int .i64 xz, .slice pc xc.length qc] := hn 4 (by decide)
                clear hn ho
                obtain ⟨b, r, hb⟩ := g49
                rw [r] at e49
                refine oper_appr1 elEntT rfl (.tmp 47) (.tmp 49) rfl wf.heap.size (vs 2) l.length us.flatten (by simp [Act.eval, e47]) g47 b [.string xn, .bool xd, .int .i64 xz, .slice pc xc.length qc] (by simp [Act.eval, e49]) rfl (blk_cells hb) (by intro y hy; simp at hy; rcases hy with rfl | rfl | rfl | rfl <;> rfl) (by omega) hk.size ?_
                intro v' w' ho hc
                have KK : Keeps wf w' := hk.then (chg_kept (B := wf.heap.size) hc (fun q _ e => (own_blockK g47 q e).1) hk.size) (Nat.le_refl _)
                exact hK v' w' KK (fun j u h1 h2 h3 _ h => nmo5ttf_sp j u _ _ h1 h2 (fun e => by subst e; cases h3) h) (HOW.out v' w' ho KK)
              · intro _ a w1 vs hk ho hn K hK
                obtain ⟨e50, g50⟩ : a.tmps[50]? = some (vs 5) ∧ EntsAt w1.heap (vs 5) (l ++ [⟨xn, xd, xz, xc⟩]) := hn 5 (by decide)
                clear hn ho
                go_simp
                refine Calls.mono (given_any _ ((l ++ [⟨xn, xd, xz, xc⟩])) _ g50 HNUM.out) ?_
                rintro e w' ⟨v', rfl, h1, KK⟩
                go_simp
                exact hK _ _ (hk.trans KK) (fun j u _ _ _ _ h => nmo5ttf_kp j u _ _ KK h) h1
              · intro _ a w1 vs hk ho hn K hK
                obtain ⟨e51, g51⟩ : a.tmps[51]? = some (vs 6) ∧ EntsAt w1.heap (vs 6) (l ++ [⟨xn, xd, xz, xc⟩]) := hn 6 (by decide)
                clear hn ho
                go_simp
                refine Calls.mono (nmay_any _ ((l ++ [⟨xn, xd, xz, xc⟩])) _ g51) ?_
                rintro e w' ⟨rfl, KK⟩
                rw [HM.out]
                go_simp
                exact hK _ _ (hk.trans KK) (fun j u _ _ _ _ h => nmo5ttf_kp j u _ _ KK h) rfl
              · intro _ a w1 vs hk ho hn K hK
                have e5 : a.tmps[5]? = some (.bool true) := ho 5 rfl
                clear hn ho
                go_simp
                exact hK _ _ hk (fun _ _ _ _ _ _ h => h) rfl
              · intro _ a w1 vs hk ho hn K hK
                obtain ⟨e53, g53⟩ : a.tmps[53]? = some (vs 8) ∧ vs 8 = .bool true := hn 8 (by decide)
                rw [g53] at e53
                clear g53
                clear hn ho
                go_simp
                exact hK _ _ hk (fun _ _ _ _ _ _ h => h) rfl
              · intro _ a w1 vs hk ho hn K hK
                have e6 : a.tmps[6]? = some (.bool true) := ho 6 rfl
                clear hn ho
                go_simp
                exact hK _ _ hk (fun _ _ _ _ _ _ h => h) rfl
              · intro _ a w1 vs hk ho hn K hK
                obtain ⟨e54, g54⟩ : a.tmps[54]? = some (vs 9) ∧ vs 9 = .bool true := hn 9 (by decide)
                rw [g54] at e54
                clear g54
                obtain ⟨e55, g55⟩ : a.tmps[55]? = some (vs 10) ∧ vs 10 = .bool true := hn 10 (by decide)
                rw [g55] at e55
                clear g55
                clear hn ho
                go_simp
                exact hK _ _ hk (fun _ _ _ _ _ _ h => h) rfl
              · intro _ a w1 vs hk ho hn K hK
                obtain ⟨e56, g56⟩ : a.tmps[56]? = some (vs 11) ∧ vs 11 = .bool true := hn 11 (by decide)
                rw [g56] at e56
                clear g56
                clear hn ho
                go_simp
                exact hK _ _ hk (fun _ _ _ _ _ _ h => h) rfl
              · intro _ a w1 vs hk ho hn K hK
                have e0 : a.tmps[0]? = some (.slice (some ⟨b1, o1, none⟩) l.length q) := ho 0 rfl
                clear hn ho
                go_simp
                exact hK _ _ hk (fun _ _ _ _ _ _ h => h) rfl
              · intro _ a w1 vs hk ho hn K hK
                obtain ⟨e58, g58⟩ : a.tmps[58]? = some (vs 13) ∧ vs 13 = .slice (some ⟨b1, o1, none⟩) l.length q := hn 13 (by decide)
                rw [g58] at e58
                clear g58
                clear hn ho
                go_simp
                exact hK _ _ hk (fun _ _ _ _ _ _ h => h) rfl
              · intro _ a w1 vs hk ho hn K hK
                obtain ⟨e59, g59⟩ : a.tmps[59]? = some (vs 14) ∧ vs 14 = .int .i64 (l.length : Int) := hn 14 (by decide)
                rw [g59] at e59
                clear g59
                clear hn ho
                have i1 := HLT.out
                go_simp
                exact hK _ _ hk (fun _ _ _ _ _ _ h => h) rfl
              · intro _ a w1 vs hk ho hn K hK
                obtain ⟨e57, g57⟩ : a.tmps[57]? = some (vs 12) ∧ vs 12 = .bool true := hn 12 (by decide)
                rw [g57] at e57
                clear g57
                obtain ⟨e60, g60⟩ : a.tmps[60]? = some (vs 15) ∧ vs 15 = .bool false := hn 15 (by decide)
                rw [g60] at e60
                clear g60
                clear hn ho
                go_simp
                exact hK _ _ hk (fun _ _ _ _ _ _ h => h) rfl
              · intro _ a w1 vs hk ho hn K hK
                obtain ⟨e52, g52⟩ : a.tmps[52]? = some (vs 7) ∧ vs 7 = .bool false := hn 7 (by decide)
                rw [g52] at e52
                clear g52
                obtain ⟨e61, g61⟩ : a.tmps[61]? = some (vs 16) ∧ vs 16 = .bool false := hn 16 (by decide)
                rw [g61] at e61
                clear g61
                clear hn ho
                go_simp
                exact hK _ _ hk (fun _ _ _ _ _ _ h => h) rfl
              · intro _ a w1 vs hk ho hn K hK
                obtain ⟨e62, g62⟩ : a.tmps[62]? = some (vs 17) ∧ vs 17 = .bool true := hn 17 (by decide)
                rw [g62] at e62
                clear g62
                clear hn ho
                go_simp
                exact hK _ _ hk (fun _ _ _ _ _ _ h => h) rfl
            · intro vs wE hI hG
              have eL18 : vs 18 = .bool true := hG 18 (by decide) (by decide)
              have HKE := Lib.hid hI
              clear hG hI
              simp only [setAll, Nat.zero_add, Nat.reduceAdd, List.setIfInBounds_toArray, List.set_cons_zero, List.set_cons_succ, eL18]
              clear eL18
              generalize vs 0 = y0 at *
              generalize vs 1 = y1 at *
              generalize vs 2 = y2 at *
              generalize vs 3 = y3 at *
              generalize vs 4 = y4 at *
              generalize vs 5 = y5 at *
              generalize vs 6 = y6 at *
              generalize vs 7 = y7 at *
              generalize vs 8 = y8 at *
              generalize vs 9 = y9 at *
              generalize vs 10 = y10 at *
              generalize vs 11 = y11 at *
              generalize vs 12 = y12 at *
              generalize vs 13 = y13 at *
              generalize vs 14 = y14 at *
              generalize vs 15 = y15 at *
              generalize vs 16 = y16 at *
              generalize vs 17 = y17 at *
              have HKW := Lib.hid (HKF.out.trans HKE.out)
              clear HKE
              go_wp2_with fail
              go_ret
              exact ⟨rfl, HKW.out⟩
    | false =>
      have HAB : Hid (aboveE l ⟨xn, xd, xz, xc⟩ = false) := by show _ = _; unfold aboveE; rw [decide_eq_false h0, ← hkp, hls]; rfl
      have HLS : Hid (Op.bytesLess (eAt l kp).n.toList xn.toList = false) := hls
      have H0 := Lib.hid h0
      clear hls h0 hkp
      generalize (eAt l kp).n = Pn at *
      refine wp_region_stage [30, 31, 32, 33, 34, 35, 36, 37, 38, 39, 40, 41, 42, 43, 44, 6] [[], [0], [1], [2], [3], [3], [3, 5], [3, 6], [3, 4, 7], [3, 8], [3, 9], [3], [3, 11], [3, 10, 12], [3, 13], [14]] [] [0, 0, 0, 0, 0, 0, 0, 0, 0, 0, 0, 0, 0, 0, 0, 0] [] (fun i v _ => nmo4F (some ⟨b1, o1, none⟩) l.length q w.heap.size b1 o1 kp xn Pn i v) (fun w w' => Keeps w w') (fun _ _ w' => Keeps wg w') (by kernel_rfl) (by kernel_rfl) (by kernel_rfl) (by kernel_rfl) (by kernel_rfl) (by kernel_rfl) (by kernel_rfl) ?_ ?_ ?_ ?_ ?_ ?_ ?_
      · exact fun i v w w' c h => h
      · exact fun w => keeps_refl w
      · exact fun i s vs w _ h => h
      · refine ⟨?_, ?_, ?_, ?_, ?_, ?_, ?_, ?_, ?_, ?_, ?_, ?_, ?_, ?_, ?_, ?_, trivial⟩
        · exact fun g b h => by (cases h)
        · exact fun g b h => by (cases h)
        · exact fun g b h => by (cases h)
        · exact fun g b h => by (cases h)
        · exact fun g b h => by (cases h; exact ⟨by decide, fun v w h => h⟩)
        · exact fun g b h => by (cases h; exact ⟨by decide, fun v w h => h⟩)
        · exact fun g b h => by (cases h; exact ⟨by decide, fun v w h => h⟩)
        · exact fun g b h => by (cases h; exact ⟨by decide, fun v w h => h⟩)
        · exact fun g b h => by (cases h; exact ⟨by decide, fun v w h => h⟩)
        · exact fun g b h => by (cases h; exact ⟨by decide, fun v w h => h⟩)
        · exact fun g b h => by (cases h; exact ⟨by decide, fun v w h => h⟩)
        · exact fun g b h => by (cases h; exact ⟨by decide, fun v w h => h⟩)
        · exact fun g b h => by (cases h; exact ⟨by decide, fun v w h => h⟩)
        · exact fun g b h => by (cases h; exact ⟨by decide, fun v w h => h⟩)
        · exact fun g b h => by (cases h)
        · exact fun g b h => by (cases h)
      · exact fun _ _ => keeps_refl wg
      · refine ⟨?_, ?_, ?_, ?_, ?_, ?_, ?_, ?_, ?_, ?_, ?_, ?_, ?_, ?_, ?_, ?_, trivial⟩
        · intro _ a w1 vs hI ho hn hu K hK
          have e0 : a.tmps[0]? = some (.slice (some ⟨b1, o1, none⟩) l.length q) := ho 0 rfl
          clear hn ho hu
          go_simp
          exact hK _ _ (keeps_refl _) hI rfl
        · intro _ a w1 vs hI ho hn hu K hK
          obtain ⟨e30, g30⟩ : a.tmps[30]? = some (vs 0) ∧ vs 0 = .slice (some ⟨b1, o1, none⟩) l.length q := hn 0 (by decide)
          rw [g30] at e30
          clear g30
          clear hn ho hu
          go_simp
          exact hK _ _ (keeps_refl _) hI rfl
        · intro _ a w1 vs hI ho hn hu K hK
          obtain ⟨e31, g31⟩ : a.tmps[31]? = some (vs 1) ∧ vs 1 = .int .i64 (l.length : Int) := hn 1 (by decide)
          rw [g31] at e31
          clear g31
          clear hn ho hu
          have i1 := HZ.out.1
          have i2 := HZ.out.2
          go_simp
          exact hK _ _ (keeps_refl _) hI rfl
        · intro _ a w1 vs hI ho hn hu K hK
          obtain ⟨e32, g32⟩ : a.tmps[32]? = some (vs 2) ∧ vs 2 = .bool false := hn 2 (by decide)
          rw [g32] at e32
          clear g32
          clear hn ho hu
          go_simp
          exact hK _ _ (keeps_refl _) hI rfl
        · intro _ a w1 vs hI ho hn hu K hK
          have e0 : a.tmps[0]? = some (.slice (some ⟨b1, o1, none⟩) l.length q) := ho 0 rfl
          clear hn ho hu
          go_simp
          exact hK _ _ (keeps_refl _) hI rfl
        · intro _ a w1 vs hI ho hn hu K hK
          have e0 : a.tmps[0]? = some (.slice (some ⟨b1, o1, none⟩) l.length q) := ho 0 rfl
          clear hn ho hu
          go_simp
          exact hK _ _ (keeps_refl _) hI rfl
        · intro _ a w1 vs hI ho hn hu K hK
          obtain ⟨e35, g35⟩ : a.tmps[35]? = some (vs 5) ∧ vs 5 = .slice (some ⟨b1, o1, none⟩) l.length q := hn 5 (by decide)
          rw [g35] at e35
          clear g35
          clear hn ho hu
          go_simp
          exact hK _ _ (keeps_refl _) hI rfl
        · intro _ a w1 vs hI ho hn hu K hK
          obtain ⟨e36, g36⟩ : a.tmps[36]? = some (vs 6) ∧ vs 6 = .int .i64 (l.length : Int) := hn 6 (by decide)
          rw [g36] at e36
          clear g36
          clear hn ho hu
          have i1 := HW1.out.1
          have i2 := HW1.out.2
          go_simp
          exact hK _ _ (keeps_refl _) hI rfl
        · intro _ a w1 vs hI ho hn hu K hK
          obtain ⟨e34, g34⟩ : a.tmps[34]? = some (vs 4) ∧ vs 4 = .slice (some ⟨b1, o1, none⟩) l.length q := hn 4 (by decide)
          rw [g34] at e34
          clear g34
          obtain ⟨e37, g37⟩ : a.tmps[37]? = some (vs 7) ∧ vs 7 = .int .i64 (kp : Int) := hn 7 (by decide)
          rw [g37] at e37
          clear g37
          clear hn ho hu
          have i1 := HW2.out.1
          have i2 := HW2.out.2
          go_simp
          exact hK _ _ (keeps_refl _) hI rfl
        · intro _ a w1 vs hI ho hn hu K hK
          obtain ⟨e38, g38⟩ : a.tmps[38]? = some (vs 8) ∧ vs 8 = .pointer (some ⟨b1, o1 + kp * 4, none⟩) := hn 8 (by decide)
          rw [g38] at e38
          clear g38
          clear hn ho hu
          go_simp
          exact hK _ _ (keeps_refl _) hI rfl
        · intro _ a w1 vs hI ho hn hu K hK
          obtain ⟨e39, g39⟩ : a.tmps[39]? = some (vs 9) ∧ vs 9 = .pointer (some ⟨b1, o1 + kp * 4, none⟩) := hn 9 (by decide)
          rw [g39] at e39
          clear g39
          clear hn ho hu
          have c0 := keeps_cell hI Q0.out
          go_simp
          exact hK _ _ (keeps_refl _) hI rfl
        · intro _ a w1 vs hI ho hn hu K hK
          have e3 : a.tmps[3]? = some (.pointer (some ⟨w.heap.size, 0, none⟩)) := ho 3 rfl
          clear hn ho hu
          go_simp
          exact hK _ _ (keeps_refl _) hI rfl
        · intro _ a w1 vs hI ho hn hu K hK
          obtain ⟨e41, g41⟩ : a.tmps[41]? = some (vs 11) ∧ vs 11 = .pointer (some ⟨w.heap.size, 0, none⟩) := hn 11 (by decide)
          rw [g41] at e41
          clear g41
          clear hn ho hu
          have c0 := keeps_cell hI E0.out
          go_simp
          exact hK _ _ (keeps_refl _) hI rfl
        · intro _ a w1 vs hI ho hn hu K hK
          obtain ⟨e40, g40⟩ : a.tmps[40]? = some (vs 10) ∧ vs 10 = .string Pn := hn 10 (by decide)
          rw [g40] at e40
          clear g40
          obtain ⟨e42, g42⟩ : a.tmps[42]? = some (vs 12) ∧ vs 12 = .string xn := hn 12 (by decide)
          rw [g42] at e42
          clear g42
          clear hn ho hu
          have i1 := HLS.out
          go_simp
          exact hK _ _ (keeps_refl _) hI rfl
        · intro _ a w1 vs hI ho hn hu K hK
          obtain ⟨e33, g33⟩ : a.tmps[33]? = some (vs 3) ∧ vs 3 = .bool false := hn 3 (by decide)
          rw [g33] at e33
          clear g33
          obtain ⟨e43, g43⟩ : a.tmps[43]? = some (vs 13) ∧ vs 13 = .bool false := hn 13 (by decide)
          rw [g43] at e43
          clear g43
          clear hn ho hu
          go_simp
          exact hK _ _ (keeps_refl _) hI rfl
        · intro _ a w1 vs hI ho hn hu K hK
          obtain ⟨e44, g44⟩ : a.tmps[44]? = some (vs 14) ∧ vs 14 = .bool false := hn 14 (by decide)
          rw [g44] at e44
          clear g44
          clear hn ho hu
          go_simp
          exact hK _ _ (keeps_refl _) hI rfl
      · intro vs wE hI hG
        have eL15 : vs 15 = .bool false := hG 15 (by decide)
        have HKE := Lib.hid hI
        clear hG hI
        simp only [setAll, Nat.zero_add, Nat.reduceAdd, List.setIfInBounds_toArray, List.set_cons_zero, List.set_cons_succ, eL15]
        clear eL15
        generalize vs 0 = y0 at *
        generalize vs 1 = y1 at *
        generalize vs 2 = y2 at *
        generalize vs 3 = y3 at *
        generalize vs 4 = y4 at *
        generalize vs 5 = y5 at *
        generalize vs 6 = y6 at *
        generalize vs 7 = y7 at *
        generalize vs 8 = y8 at *
        generalize vs 9 = y9 at *
        generalize vs 10 = y10 at *
        generalize vs 11 = y11 at *
        generalize vs 12 = y12 at *
        generalize vs 13 = y13 at *
        generalize vs 14 = y14 at *
        have HKF := Lib.hid (HKG.out.trans HKE.out)
        have HBF := Lib.hid (HBG.out.keeps HKE.out)
        clear HKE E0
        generalize wE = wf at *
        have H6 := Lib.hid (EntsAt.keeps H.out HKF.out)
        obtain ⟨us, hu1, hu2, hu3, hu4, hu5⟩ := ents_cells H6.out
        have HOW : Hid (∀ v' w', w'.ownsRow wf.heap.size 40 4 v' (l.length + 1) (us.flatten ++ [.string xn, .bool xd, .int .i64 xz, .slice pc xc.length qc]) → Keeps wf w' → EntsAt w'.heap v' (l ++ [⟨xn, xd, xz, xc⟩])) := fun v' w' ho hk => ents_push hu1 hu3 ho hk rfl (SeqAt.keeps HCX.out HKF.out) HQX.out (by omega)
        have HFL := Lib.hid hu2
        have HFC := Lib.hid hu5
        clear hu1 hu2 hu3 hu4 hu5
        have E0 := Lib.hid (HBF.out.cell (i := 0) rfl)
        have E1 := Lib.hid (HBF.out.cell (i := 1) rfl)
        have E2 := Lib.hid (HBF.out.cell (i := 2) rfl)
        have E3 := Lib.hid (HBF.out.cell (i := 3) rfl)
        go_wp2_with fail
        have HMM := Lib.hid (HMO.out.trans (by rw [HAB.out]))
        cases hone : mayL [⟨xn, xd, xz, xc⟩] with
        | false =>
          have HM : Hid (mayL (l ++ [⟨xn, xd, xz, xc⟩]) = false) := by show _ = _; rw [HMM.out, hone]; rfl
          clear hone
          refine wp_region_lineG [45, 46, 47, 48, 49, 50, 51, 52, 53, 54, 55, 56, 57, 58, 59, 60, 61, 62, 4] [[], [], [0, 1], [], [3], [2, 4], [5], [6], [], [8], [9], [9, 10], [11], [12], [12], [12], [12, 15], [7, 16], [17]] [[], [], [0], [], [], [0, 2, 4], [], [], [], [], [], [], [], [], [], [], [], [], []] [10, 13, 14, 15] (nmo5fft (some ⟨b1, o1, none⟩) l.length q w.heap.size wf.heap.size xc.length qc pc xn xd xz us.flatten (l ++ [⟨xn, xd, xz, xc⟩])) (by kernel_rfl) (by kernel_rfl) (by kernel_rfl) (by kernel_rfl) (by kernel_rfl) (by kernel_rfl) ?_ ?_ ?_
          · refine ⟨?_, ?_, ?_, ?_, ?_, ?_, ?_, ?_, ?_, ?_, ?_, ?_, ?_, ?_, ?_, ?_, ?_, ?_, ?_, trivial⟩
            · exact fun g b h => by (cases h)
            · exact fun g b h => by (cases h)
            · exact fun g b h => by (cases h)
            · exact fun g b h => by (cases h)
            · exact fun g b h => by (cases h)
            · exact fun g b h => by (cases h)
            · exact fun g b h => by (cases h)
            · exact fun g b h => by (cases h)
            · exact fun g b h => by (cases h)
            · exact fun g b h => by (cases h)
            · exact ⟨⟨_, _, rfl, by decide, fun v w h => by (first | (change v = _ at h; subst h; intro x; cases x) | skip)⟩, fun w => rfl⟩
            · exact fun g b h => by (cases h)
            · exact fun g b h => by (cases h)
            · exact ⟨⟨_, _, rfl, by decide, fun v w h => by (first | (change v = _ at h; subst h; intro x; cases x) | skip)⟩, fun w => rfl⟩
            · exact ⟨⟨_, _, rfl, by decide, fun v w h => by (first | (change v = _ at h; subst h; intro x; cases x) | skip)⟩, fun w => rfl⟩
            · exact ⟨⟨_, _, rfl, by decide, fun v w h => by (first | (change v = _ at h; subst h; intro x; cases x) | skip)⟩, fun w => rfl⟩
            · exact fun g b h => by (cases h)
            · exact fun g b h => by (cases h)
            · exact fun g b h => by (cases h)
          · refine ⟨?_, ?_, ?_, ?_, ?_, ?_, ?_, ?_, ?_, ?_, ?_, ?_, ?_, ?_, ?_, ?_, ?_, ?_, ?_, trivial⟩
            · intro _ a w1 vs hk ho hn K hK
              clear hn ho
              go_simp
              have KK := kal w1 (.cells #[] 40)
              exact hK _ _ (hk.trans KK) (fun j u _ _ _ _ h => nmo5fft_kp j u _ _ KK h) ⟨_, rfl, own_empty0 w1 wf.heap.size 40 4 hk.size⟩
            · intro _ a w1 vs hk ho hn K hK
              have e0 : a.tmps[0]? = some (.slice (some ⟨b1, o1, none⟩) l.length q) := ho 0 rfl
              clear hn ho
              go_simp
              exact hK _ _ hk (fun _ _ _ _ _ _ h => h) rfl
            · intro _ a w1 vs hk ho hn K hK
              obtain ⟨e45, g45⟩ : a.tmps[45]? = some (vs 0) ∧ ∃ g, (vs 0) = .slice (some ⟨g, 0, none⟩) 0 0 ∧ w1.ownsRow wf.heap.size 40 4 (vs 0) 0 [] := hn 0 (by decide)
              obtain ⟨e46, g46⟩ : a.tmps[46]? = some (vs 1) ∧ vs 1 = .slice (some ⟨b1, o1, none⟩) l.length q := hn 1 (by decide)
              rw [g46] at e46
              clear g46
              clear hn ho
              obtain ⟨g, r, ow⟩ := g45
              rw [r] at e45 ow
              refine oper_freshR elEntT rfl (.tmp 45) (.tmp 46) rfl g wf.heap.size (by simp [Act.eval, e45]) ow hk.size (some ⟨b1, o1, none⟩) l.length q us.flatten (by simp [Act.eval, e46]) HFL.out (fun h0 => let ⟨b, o, e, hc⟩ := HFC.out h0; ⟨b, o, e, fun j hj => keeps_cell hk (hc j hj)⟩) (by omega) ?_
              intro v' w' ow2 KK
              exact hK v' w' (hk.trans KK) (fun j u _ _ _ _ h => nmo5fft_kp j u _ _ KK h) ow2
            · intro _ a w1 vs hk ho hn K hK
              have e3 : a.tmps[3]? = some (.pointer (some ⟨w.heap.size, 0, none⟩)) := ho 3 rfl
              clear hn ho
              have c0 := keeps_cell hk E0.out
              have c1 := keeps_cell hk E1.out
              have c2 := keeps_cell hk E2.out
              have c3 := keeps_cell hk E3.out
              go_simp
              exact hK _ _ hk (fun _ _ _ _ _ _ h => h) rfl
            · intro _ a w1 vs hk ho hn K hK
              obtain ⟨e48, g48⟩ : a.tmps[48]? = some (vs 3) ∧ vs 3 = .agg #[.string xn, .bool xd, .int .i64 xz, .slice pc xc.length qc] := hn 3 (by decide)
              rw [g48] at e48
              clear g48
              clear hn ho
              go_simp
              have KK := kal w1 (.cells #[.string xn, .bool xd, .int .i64 xz, .slice pc xc.length qc] 40)
              exact hK _ _ (hk.trans KK) (fun j u _ _ _ _ h => nmo5fft_kp j u _ _ KK h) ⟨_, rfl, BlkAt.new _ _ _⟩
            · intro _ a w1 vs hk ho hn K hK
              obtain ⟨e47, g47⟩ : a.tmps[47]? = some (vs 2) ∧ w1.ownsRow wf.heap.size 40 4 (vs 2) l.length us.flatten := hn 2 (by decide)
              obtain ⟨e49, g49⟩ : a.tmps[49]? = some (vs 4) ∧ ∃ b, (vs 4) = .slice (some ⟨b, 0, none⟩) 1 1 ∧ BlkAt w1 b 40 #[.string xn, .bool xd, .int .i64 xz, .slice pc xc.length qc] := hn 4 (by decide)
              clear hn ho
              obtain ⟨b, r, hb⟩ := g49
              rw [r] at e49
              refine oper_appr1 elEntT rfl (.tmp 47) (.tmp 49) rfl wf.heap.size (vs 2) l.length us.flatten (by simp [Act.eval, e47]) g47 b [.string xn, .bool xd, .int .i64 xz, .slice pc xc.length qc] (by simp [Act.eval, e49]) rfl (blk_cells hb) (by intro y hy; simp at hy; rcases hy with rfl | rfl | rfl | rfl <;> rfl) (by omega) hk.size ?_
              intro v' w' ho hc
              have KK : Keeps wf w' := hk.then (chg_kept (B := wf.heap.size) hc (fun q _ e => (own_blockK g47 q e).1) hk.size) (Nat.le_refl _)
              exact hK v' w' KK (fun j u h1 h2 h3 _ h => nmo5fft_sp j u _ _ h1 h2 (fun e => by subst e; cases h3) h) (HOW.out v' w' ho KK)
            · intro _ a w1 vs hk ho hn K hK
              obtain ⟨e50, g50⟩ : a.tmps[50]? = some (vs 5) ∧ EntsAt w1.heap (vs 5) (l ++ [⟨xn, xd, xz, xc⟩]) := hn 5 (by decide)
              clear hn ho
              go_simp
              refine Calls.mono (given_any _ ((l ++ [⟨xn, xd, xz, xc⟩])) _ g50 HNUM.out) ?_
              rintro e w' ⟨v', rfl, h1, KK⟩
              go_simp
              exact hK _ _ (hk.trans KK) (fun j u _ _ _ _ h => nmo5fft_kp j u _ _ KK h) h1
            · intro _ a w1 vs hk ho hn K hK
              obtain ⟨e51, g51⟩ : a.tmps[51]? = some (vs 6) ∧ EntsAt w1.heap (vs 6) (l ++ [⟨xn, xd, xz, xc⟩]) := hn 6 (by decide)
              clear hn ho
              go_simp
              refine Calls.mono (nmay_any _ ((l ++ [⟨xn, xd, xz, xc⟩])) _ g51) ?_
              rintro e w' ⟨rfl, KK⟩
              rw [HM.out]
              go_simp
              exact hK _ _ (hk.trans KK) (fun j u _ _ _ _ h => nmo5fft_kp j u _ _ KK h) rfl
            · intro _ a w1 vs hk ho hn K hK
              have e5 : a.tmps[5]? = some (.bool false) := ho 5 rfl
              clear hn ho
              go_simp
              exact hK _ _ hk (fun _ _ _ _ _ _ h => h) rfl
            · intro _ a w1 vs hk ho hn K hK
              obtain ⟨e53, g53⟩ : a.tmps[53]? = some (vs 8) ∧ vs 8 = .bool false := hn 8 (by decide)
              rw [g53] at e53
              clear g53
              clear hn ho
              go_simp
              exact hK _ _ hk (fun _ _ _ _ _ _ h => h) rfl
            · intro hs; cases hs
            · intro _ a w1 vs hk ho hn K hK
              obtain ⟨e54, g54⟩ : a.tmps[54]? = some (vs 9) ∧ vs 9 = .bool false := hn 9 (by decide)
              rw [g54] at e54
              clear g54
              obtain ⟨e55, g55⟩ : a.tmps[55]? = some (vs 10) ∧ vs 10 = undef := hn 10 (by decide)
              rw [g55] at e55
              clear g55
              clear hn ho
              go_simp
              exact hK _ _ hk (fun _ _ _ _ _ _ h => h) rfl
            · intro _ a w1 vs hk ho hn K hK
              obtain ⟨e56, g56⟩ : a.tmps[56]? = some (vs 11) ∧ vs 11 = .bool false := hn 11 (by decide)
              rw [g56] at e56
              clear g56
              clear hn ho
              go_simp
              exact hK _ _ hk (fun _ _ _ _ _ _ h => h) rfl
            · intro hs; cases hs
            · intro hs; cases hs
            · intro hs; cases hs
            · intro _ a w1 vs hk ho hn K hK
              obtain ⟨e57, g57⟩ : a.tmps[57]? = some (vs 12) ∧ vs 12 = .bool false := hn 12 (by decide)
              rw [g57] at e57
              clear g57
              obtain ⟨e60, g60⟩ : a.tmps[60]? = some (vs 15) ∧ vs 15 = undef := hn 15 (by decide)
              rw [g60] at e60
              clear g60
              clear hn ho
              go_simp
              exact hK _ _ hk (fun _ _ _ _ _ _ h => h) rfl
            · intro _ a w1 vs hk ho hn K hK
              obtain ⟨e52, g52⟩ : a.tmps[52]? = some (vs 7) ∧ vs 7 = .bool false := hn 7 (by decide)
              rw [g52] at e52
              clear g52
              obtain ⟨e61, g61⟩ : a.tmps[61]? = some (vs 16) ∧ vs 16 = .bool false := hn 16 (by decide)
              rw [g61] at e61
              clear g61
              clear hn ho
              go_simp
              exact hK _ _ hk (fun _ _ _ _ _ _ h => h) rfl
            · intro _ a w1 vs hk ho hn K hK
              obtain ⟨e62, g62⟩ : a.tmps[62]? = some (vs 17) ∧ vs 17 = .bool true := hn 17 (by decide)
              rw [g62] at e62
              clear g62
              clear hn ho
              go_simp
              exact hK _ _ hk (fun _ _ _ _ _ _ h => h) rfl
          · intro vs wE hI hG
            have eL18 : vs 18 = .bool true := hG 18 (by decide) (by decide)
            have HKE := Lib.hid hI
            clear hG hI
            simp only [setAll, Nat.zero_add, Nat.reduceAdd, List.setIfInBounds_toArray, List.set_cons_zero, List.set_cons_succ, eL18]
            clear eL18
            generalize vs 0 = y0 at *
            generalize vs 1 = y1 at *
            generalize vs 2 = y2 at *
            generalize vs 3 = y3 at *
            generalize vs 4 = y4 at *
            generalize vs 5 = y5 at *
            generalize vs 6 = y6 at *
            generalize vs 7 = y7 at *
            generalize vs 8 = y8 at *
            generalize vs 9 = y9 at *
            generalize vs 10 = y10 at *
            generalize vs 11 = y11 at *
            generalize vs 12 = y12 at *
            generalize vs 13 = y13 at *
            generalize vs 14 = y14 at *
            generalize vs 15 = y15 at *
            generalize vs 16 = y16 at *
            generalize vs 17 = y17 at *
            have HKW := Lib.hid (HKF.out.trans HKE.out)
            clear HKE
            go_wp2_with fail
            go_ret
            exact ⟨rfl, HKW.out⟩
        | true =>
          have HM : Hid (mayL (l ++ [⟨xn, xd, xz, xc⟩]) = false) := by show _ = _; rw [HMM.out, hone]; rfl
          clear hone
          refine wp_region_lineG [45, 46, 47, 48, 49, 50, 51, 52, 53, 54, 55, 56, 57, 58, 59, 60, 61, 62, 4] [[], [], [0, 1], [], [3], [2, 4], [5], [6], [], [8], [9], [9, 10], [11], [12], [12], [12], [12, 15], [7, 16], [17]] [[], [], [0], [], [], [0, 2, 4], [], [], [], [], [], [], [], [], [], [], [], [], []] [13, 14, 15] (nmo5tft (some ⟨b1, o1, none⟩) l.length q w.heap.size wf.heap.size xc.length qc pc xn xd xz us.flatten (l ++ [⟨xn, xd, xz, xc⟩])) (by kernel_rfl) (by kernel_rfl) (by kernel_rfl) (by kernel_rfl) (by kernel_rfl) (by kernel_rfl) ?_ ?_ ?_
          · refine ⟨?_, ?_, ?_, ?_, ?_, ?_, ?_, ?_, ?_, ?_, ?_, ?_, ?_, ?_, ?_, ?_, ?_, ?_, ?_, trivial⟩
            · exact fun g b h => by (cases h)
            · exact fun g b h => by (cases h)
            · exact fun g b h => by (cases h)
            · exact fun g b h => by (cases h)
            · exact fun g b h => by (cases h)
            · exact fun g b h => by (cases h)
            · exact fun g b h => by (cases h)
            · exact fun g b h => by (cases h)
            · exact fun g b h => by (cases h)
            · exact fun g b h => by (cases h)
            · exact fun g b h => by (cases h; exact ⟨by decide, fun v w h => h⟩)
            · exact fun g b h => by (cases h)
            · exact fun g b h => by (cases h)
            · exact ⟨⟨_, _, rfl, by decide, fun v w h => by (first | (change v = _ at h; subst h; intro x; cases x) | skip)⟩, fun w => rfl⟩
            · exact ⟨⟨_, _, rfl, by decide, fun v w h => by (first | (change v = _ at h; subst h; intro x; cases x) | skip)⟩, fun w => rfl⟩
            · exact ⟨⟨_, _, rfl, by decide, fun v w h => by (first | (change v = _ at h; subst h; intro x; cases x) | skip)⟩, fun w => rfl⟩
            · exact fun g b h => by (cases h)
            · exact fun g b h => by (cases h)
            · exact fun g b h => by (cases h)
          · refine ⟨?_, ?_, ?_, ?_, ?_, ?_, ?_, ?_, ?_, ?_, ?_, ?_, ?_, ?_, ?_, ?_, ?_, ?_, ?_, trivial⟩
            · intro _ a w1 vs hk ho hn K hK
              clear hn ho
              go_simp
              have KK := kal w1 (.cells #[] 40)
              exact hK _ _ (hk.trans KK) (fun j u _ _ _ _ h => nmo5tft_kp j u _ _ KK h) ⟨_, rfl, own_empty0 w1 wf.heap.size 40 4 hk.size⟩
            · intro _ a w1 vs hk ho hn K hK
              have e0 : a.tmps[0]? = some (.slice (some ⟨b1, o1, none⟩) l.length q) := ho 0 rfl
              clear hn ho
              go_simp
              exact hK _ _ hk (fun _ _ _ _ _ _ h => h) rfl
            · intro _ a w1 vs hk ho hn K hK
              obtain ⟨e45, g45⟩ : a.tmps[45]? = some (vs 0) ∧ ∃ g, (vs 0) = .slice (some ⟨g, 0, none⟩) 0 0 ∧ w1.ownsRow wf.heap.size 40 4 (vs 0) 0 [] := hn 0 (by decide)
              obtain ⟨e46, g46⟩ : a.tmps[46]? = some (vs 1) ∧ vs 1 = .slice (some ⟨b1, o1, none⟩) l.length q := hn 1 (by decide)
              rw [g46] at e46
              clear g46
              clear hn ho
              obtain ⟨g, r, ow⟩ := g45
              rw [r] at e45 ow
              refine oper_freshR elEntT rfl (.tmp 45) (.tmp 46) rfl g wf.heap.size (by simp [Act.eval, e45]) ow hk.size (some ⟨b1, o1, none⟩) l.length q us.flatten (by simp [Act.eval, e46]) HFL.out (fun h0 => let ⟨b, o, e, hc⟩ := HFC.out h0; ⟨b, o, e, fun j hj => keeps_cell hk (hc j hj)⟩) (by omega) ?_
              intro v' w' ow2 KK
              exact hK v' w' (hk.trans KK) (fun j u _ _ _ _ h => nmo5tft_kp j u _ _ KK h) ow2
            · intro _ a w1 vs hk ho hn K hK
              have e3 : a.tmps[3]? = some (.pointer (some ⟨w.heap.size, 0, none⟩)) := ho 3 rfl
              clear hn ho
              have c0 := keeps_cell hk E0.out
              have c1 := keeps_cell hk E1.out
              have c2 := keeps_cell hk E2.out
              have c3 := keeps_cell hk E3.out
              go_simp
              exact hK _ _ hk (fun _ _ _ _ _ _ h => h) rfl
            · intro _ a w1 vs hk ho hn K hK
              obtain ⟨e48, g48⟩ : a.tmps[48]? = some (vs 3) ∧ vs 3 = .agg #[.string xn, .bool xd, .int .i64 xz, .slice pc xc.length qc] := hn 3 (by decide)
              rw [g48] at e48
              clear g48
              clear hn ho
              go_simp
              have KK := kal w1 (.cells #[.string xn, .bool xd, .int .i64 xz, .slice pc xc.length qc] 40)
              exact hK _ _ (hk.trans KK) (fun j u _ _ _ _ h => nmo5tft_kp j u _ _ KK h) ⟨_, rfl, BlkAt.new _ _ _⟩
            · intro _ a w1 vs hk ho hn K hK
              obtain ⟨e47, g47⟩ : a.tmps[47]? = some (vs 2) ∧ w1.ownsRow wf.heap.size 40 4 (vs 2) l.length us.flatten := hn 2 (by decide)
              obtain ⟨e49, g49⟩ : a.tmps[49]? = some (vs 4) ∧ ∃ b, (vs 4) = .slice (some ⟨b, 0, none⟩) 1 1 ∧ BlkAt w1 b 40 #[.string xn, .bool xd, .int .i64 xz, .slice pc xc.length qc] := hn 4 (by decide)
              clear hn ho
              obtain ⟨b, r, hb⟩ := g49
              rw [r] at e49
              refine oper_appr1 elEntT rfl (.tmp 47) (.tmp 49) rfl wf.heap.size (vs 2) l.length us.flatten (by simp [Act.eval, e47]) g47 b [.string xn, .bool xd, .int .i64 xz, .slice pc xc.length qc] (by simp [Act.eval, e49]) rfl (blk_cells hb) (by intro y hy; simp at hy; rcases hy with rfl | rfl | rfl | rfl <;> rfl) (by omega) hk.size ?_
              intro v' w' ho hc
              have KK : Keeps wf w' := hk.then (chg_kept (B := wf.heap.size) hc (fun q _ e => (own_blockK g47 q e).1) hk.size) (Nat.le_refl _)
              exact hK v' w' KK (fun j u h1 h2 h3 _ h => nmo5tft_sp j u _ _ h1 h2 (fun e => by subst e; cases h3) h) (HOW.out v' w' ho KK)
            · intro _ a w1 vs hk ho hn K hK
              obtain ⟨e50, g50⟩ : a.tmps[50]? = some (vs 5) ∧ EntsAt w1.heap (vs 5) (l ++ [⟨xn, xd, xz, xc⟩]) := hn 5 (by decide)
              clear hn ho
              go_simp
              refine Calls.mono (given_any _ ((l ++ [⟨xn, xd, xz, xc⟩])) _ g50 HNUM.out) ?_
              rintro e w' ⟨v', rfl, h1, KK⟩
              go_simp
              exact hK _ _ (hk.trans KK) (fun j u _ _ _ _ h => nmo5tft_kp j u _ _ KK h) h1
            · intro _ a w1 vs hk ho hn K hK
              obtain ⟨e51, g51⟩ : a.tmps[51]? = some (vs 6) ∧ EntsAt w1.heap (vs 6) (l ++ [⟨xn, xd, xz, xc⟩]) := hn 6 (by decide)
              clear hn ho
              go_simp
              refine Calls.mono (nmay_any _ ((l ++ [⟨xn, xd, xz, xc⟩])) _ g51) ?_
              rintro e w' ⟨rfl, KK⟩
              rw [HM.out]
              go_simp
              exact hK _ _ (hk.trans KK) (fun j u _ _ _ _ h => nmo5tft_kp j u _ _ KK h) rfl
            · intro _ a w1 vs hk ho hn K hK
              have e5 : a.tmps[5]? = some (.bool true) := ho 5 rfl
              clear hn ho
              go_simp
              exact hK _ _ hk (fun _ _ _ _ _ _ h => h) rfl
            · intro _ a w1 vs hk ho hn K hK
              obtain ⟨e53, g53⟩ : a.tmps[53]? = some (vs 8) ∧ vs 8 = .bool true := hn 8 (by decide)
              rw [g53] at e53
              clear g53
              clear hn ho
              go_simp
              exact hK _ _ hk (fun _ _ _ _ _ _ h => h) rfl
            · intro _ a w1 vs hk ho hn K hK
              have e6 : a.tmps[6]? = some (.bool false) := ho 6 rfl
              clear hn ho
              go_simp
              exact hK _ _ hk (fun _ _ _ _ _ _ h => h) rfl
            · intro _ a w1 vs hk ho hn K hK
              obtain ⟨e54, g54⟩ : a.tmps[54]? = some (vs 9) ∧ vs 9 = .bool true := hn 9 (by decide)
              rw [g54] at e54
              clear g54
              obtain ⟨e55, g55⟩ : a.tmps[55]? = some (vs 10) ∧ vs 10 = .bool false := hn 10 (by decide)
              rw [g55] at e55
              clear g55
              clear hn ho
              go_simp
              exact hK _ _ hk (fun _ _ _ _ _ _ h => h) rfl
            · intro _ a w1 vs hk ho hn K hK
              obtain ⟨e56, g56⟩ : a.tmps[56]? = some (vs 11) ∧ vs 11 = .bool false := hn 11 (by decide)
              rw [g56] at e56
              clear g56
              clear hn ho
              go_simp
              exact hK _ _ hk (fun _ _ _ _ _ _ h => h) rfl
            · intro hs; cases hs
            · intro hs; cases hs
            · intro hs; cases hs
            · intro _ a w1 vs hk ho hn K hK
              obtain ⟨e57, g57⟩ : a.tmps[57]? = some (vs 12) ∧ vs 12 = .bool false := hn 12 (by decide)
              rw [g57] at e57
              clear g57
              obtain ⟨e60, g60⟩ : a.tmps[60]? = some (vs 15) ∧ vs 15 = undef := hn 15 (by decide)
              rw [g60] at e60
              clear g60
              clear hn ho
              go_simp
              exact hK _ _ hk (fun _ _ _ _ _ _ h => h) rfl
            · intro _ a w1 vs hk ho hn K hK
              obtain ⟨e52, g52⟩ : a.tmps[52]? = some (vs 7) ∧ vs 7 = .bool false := hn 7 (by decide)
              rw [g52] at e52
              clear g52
              obtain ⟨e61, g61⟩ : a.tmps[61]? = some (vs 16) ∧ vs 16 = .bool false := hn 16 (by decide)
              rw [g61] at e61
              clear g61
              clear hn ho
              go_simp
              exact hK _ _ hk (fun _ _ _ _ _ _ h => h) rfl
            · intro _ a w1 vs hk ho hn K hK
              obtain ⟨e62, g62⟩ : a.tmps[62]? = some (vs 17) ∧ vs 17 = .bool true := hn 17 (by decide)
              rw [g62] at e62
              clear g62
              clear hn ho
              go_simp
              exact hK _ _ hk (fun _ _ _ _ _ _ h => h) rfl
          · intro vs wE hI hG
            have eL18 : vs 18 = .bool true := hG 18 (by decide) (by decide)
            have HKE := Lib.hid hI
            clear hG hI
            simp only [setAll, Nat.zero_add, Nat.reduceAdd, List.setIfInBounds_toArray, List.set_cons_zero, List.set_cons_succ, eL18]
            clear eL18
            generalize vs 0 = y0 at *
            generalize vs 1 = y1 at *
            generalize vs 2 = y2 at *
            generalize vs 3 = y3 at *
            generalize vs 4 = y4 at *
            generalize vs 5 = y5 at *
            generalize vs 6 = y6 at *
            generalize vs 7 = y7 at *
            generalize vs 8 = y8 at *
            generalize vs 9 = y9 at *
            generalize vs 10 = y10 at *
            generalize vs 11 = y11 at *
            generalize vs 12 = y12 at *
            generalize vs 13 = y13 at *
            generalize vs 14 = y14 at *
            generalize vs 15 = y15 at *
            generalize vs 16 = y16 at *
            generalize vs 17 = y17 at *
            have HKW := Lib.hid (HKF.out.trans HKE.out)
            clear HKE
            go_wp2_with fail
            go_ret
            exact ⟨rfl, HKW.out⟩
end Go.Proofs.YtdpfanifagfciaaDoor
