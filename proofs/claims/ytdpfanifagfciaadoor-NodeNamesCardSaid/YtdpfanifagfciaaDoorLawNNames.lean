/- The walk of the law NodeNames. Printed by gennnm.py. -/
import Derived.Test.YtdpfanifagfciaaDoorNodeD
import Derived.Test.YtdpfanifagfciaaDoorNodeW
import Derived.Test.YtdpfanifagfciaaDoorLineG
namespace Go.Proofs.YtdpfanifagfciaaDoor
open Go.RowKit
attribute [local go_sem ↓] Go.wp_at_zero Go.wp_at_succ
def chD : ByteArray := manyB 32 100
def a33 : ByteArray := manyB 33 97
def t32 : ByteArray := manyB 32 126
def L13 : List EntR := [⟨⟨#[100]⟩, true, 1, [chD]⟩, ⟨⟨#[100]⟩, true, 0, []⟩, ⟨⟨#[97]⟩, false, 1, [⟨#[99]⟩]⟩, fileR ⟨#[]⟩ 0 0, fileR ⟨#[46]⟩ 0 0, fileR ⟨#[46, 46]⟩ 0 0, fileR ⟨#[97, 32, 98]⟩ 0 0, fileR a33 0 0, fileR ⟨#[97]⟩ 1025 1, fileR ⟨#[97]⟩ 16385 17, fileR ⟨#[97]⟩ (-1) 0, fileR ⟨#[97]⟩ 1 2, fileR ⟨#[97]⟩ 0 1]
def L6 : List EntR := [⟨⟨#[100]⟩, true, 0, [chD]⟩, fileR ⟨#[97]⟩ 1 1, fileR ⟨#[97]⟩ 1024 1, fileR ⟨#[97]⟩ 16384 16, fileR ⟨#[97]⟩ 2 2, fileR t32 0 0]
theorem L13_no : (L13.all fun x => !mayE x) = true := by decide +kernel
theorem L6_yes : (L6.all fun x => mayE x && decide (14 + x.n.size + 32 * x.c.length ≤ 16384)) = true := by decide +kernel
def allE (i : Nat) : EntR := ⟨strB [UInt8.ofNat (40 + i / 200), UInt8.ofNat (50 + i / 20 % 10), UInt8.ofNat (60 + i % 20)], false, 0, []⟩
def allF (k : Nat) : List EntR := (List.range k).map allE
theorem allF_succ (k : Nat) : allF (k + 1) = allF k ++ [allE k] := by unfold allF; rw [List.range_succ, List.map_append]; rfl
theorem allF_len (k : Nat) : (allF k).length = k := by unfold allF; simp
theorem allF_take {k m : Nat} (h : k ≤ m) : (allF m).take k = allF k := by
  unfold allF
  rw [← List.map_take, List.take_range, Nat.min_eq_left h]
theorem allF_may : mayL (allF 256) = true := by decide +kernel
theorem allF_lenE : lenE (allF 256) 256 ≤ 16384 := by decide +kernel
theorem allF_no : mayL (allF 257) = false := by unfold mayL; rw [allF_len]; rfl
theorem makeE_yes {l : List EntR} (h : mayL l = true) (hs : lenE l l.length ≤ 16384) : makeE l = (strB (makeB l), 0) ∧ (strB (makeB l)).size = lenE l l.length := by
  have e : (makeB l).length = lenE l l.length := makeTo_len h l.length (Nat.le_refl _)
  refine ⟨?_, by rw [strB_size, e]⟩
  unfold makeE
  rw [h, if_pos rfl, if_neg (by omega)]
def a15 : ByteArray := ⟨#[97, 97, 97, 97, 97, 97, 97, 97, 97, 97, 97, 97, 97, 97, 97]⟩
def LA : List EntR := [fileR a15 16384 510, fileR ⟨#[98]⟩ 0 0]
def LB : List EntR := [fileR a15 16384 510, fileR ⟨#[98, 98]⟩ 0 0]
theorem LA_may : mayL LA = true := by decide +kernel
theorem LB_may : mayL LB = true := by decide +kernel
theorem LA_len : lenE LA LA.length = 16358 := by decide +kernel
theorem LB_len : lenE LB LB.length = 16359 := by decide +kernel
theorem isEnt_lit {h : Array Obj} {n : ByteArray} {d : Bool} {z : Int} {p : Option Addr} {m q : Nat} {c : List ByteArray} (hs : SeqAt IsText h (.slice p m q) c) (hq : m ≤ q) : IsEnt h [.string n, .bool d, .int .i64 z, .slice p m q] ⟨n, d, z, c⟩ :=
  ⟨_, rfl, hs, fun a n q e => by cases e; exact hq⟩
theorem isEnt_nil {h : Array Obj} {n : ByteArray} {d : Bool} {z : Int} : IsEnt h [.string n, .bool d, .int .i64 z, .slice none 0 0] ⟨n, d, z, []⟩ := isEnt_lit (SeqAt.nil _ _) (Nat.le_refl _)
/-- Cells of entries, one by one. -/
def EntsL (h : Array Obj) : List (List Value) → List EntR → Prop
  | [], [] => True
  | u :: us, x :: l => IsEnt h u x ∧ EntsL h us l
  | _, _ => False
theorem EntsL.nil {h : Array Obj} : EntsL h [] [] := trivial
theorem EntsL.cons {h : Array Obj} {u : List Value} {us : List (List Value)} {x : EntR} {l : List EntR} (a : IsEnt h u x) (b : EntsL h us l) : EntsL h (u :: us) (x :: l) := ⟨a, b⟩
theorem EntsL.all {h : Array Obj} : ∀ {us : List (List Value)} {l : List EntR}, EntsL h us l → us.length = l.length ∧ ∀ i (h1 : i < us.length) (h2 : i < l.length), us[i].length = 4 ∧ IsEnt h us[i] l[i]
  | [], [], _ => ⟨rfl, fun i h => absurd h (by simp)⟩
  | u :: us, x :: l, ⟨hx, hr⟩ => by
    obtain ⟨h1, h2⟩ := EntsL.all hr
    refine ⟨by rw [List.length_cons, List.length_cons, h1], fun i hi hi' => ?_⟩
    match i, hi, hi' with
    | 0, _, _ => exact ⟨by obtain ⟨_, e, _⟩ := hx; show u.length = 4; rw [e]; rfl, hx⟩
    | i + 1, hi, hi' => exact h2 i (by simpa using hi) (by simpa using hi')
theorem ents_litL (w : World) (us : List (List Value)) {l : List EntR} {cs : Array Value} {n c : Nat} (hcs : cs.toList = us.flatten) (hl : EntsL w.heap us l) (hn : l.length = n) (h63 : n ≤ 1000000) {N : Nat} (hN : N = w.heap.size) : EntsAt (w.alloc (.cells cs 33)).heap (.slice (some ⟨N, 0, none⟩) n c) l := by
  obtain ⟨h1, h2⟩ := hl.all
  subst hN hn
  refine ⟨_, c, rfl, by omega, fun i hi => ⟨w.heap.size, 0, us[i]'(by omega), rfl, (h2 i (by omega) hi).1, fun j hj => ?_, ?_⟩⟩
  · have hk : ∀ i (h : i < us.length), us[i].length = 4 := fun i h => (h2 i h (by omega)).1
    have h4 := flat_at us hk i j (by omega) hj
    rw [← cell_of, World.cell?_alloc_new, Nat.zero_add, ← Array.getElem?_toList, hcs, h4]
  · obtain ⟨v, e, hs, hq⟩ := (h2 i (by omega) hi).2
    exact ⟨v, e, SeqAt.keeps hs (kal _ _), hq⟩
theorem file_at (nm : ByteArray) (z : Int) (k : Nat) (hk : k ≤ 10000) (w : World) : Calls Tryd.prog 44 #[.string nm, .int .i64 z, .int .i64 (k : Int)] w fun e w' => ∃ p q, e = .returned (.agg #[.string nm, .bool false, .int .i64 z, .slice p k q]) ∧ SeqAt IsText w'.heap (.slice p k q) (List.replicate k chC) ∧ k ≤ q ∧ Keeps w w' :=
  (file_any nm z k w hk).mono fun e w' ⟨p, q, a, b, c, d⟩ => ⟨p, q, a, SeqIn.at_ b, c, d⟩
theorem file_nil (nm : ByteArray) (w : World) : Calls Tryd.prog 44 #[.string nm, .int .i64 0, .int .i64 0] w fun e w' => e = .returned (.agg #[.string nm, .bool false, .int .i64 0, .slice none 0 0]) ∧ Keeps w w' := file0_any nm 0 w
theorem cell_put {w : World} {b i : Nat} {u : Value} (h : w.cell? ⟨b, i, none⟩ = some u) (v : Value) : (w.setCell ⟨b, i, none⟩ v).cell? ⟨b, i, none⟩ = some v := by
  rw [cell_of] at h ⊢
  rw [cellH_set _ _ _ _ _ _ _ h, if_pos ⟨rfl, rfl⟩]
theorem seq_first {S : Nat → Prop} {w : World} {p : Option Addr} {n c : Nat} {s : ByteArray} {l : List ByteArray} (hs : SeqIn S 9 IsText w.heap (.slice p n c) (s :: l)) : ∃ b o, p = some ⟨b, o, none⟩ ∧ S b ∧ typH w.heap b = some 9 ∧ w.frozen? ⟨b, o, none⟩ = false ∧ w.cell? ⟨b, o, none⟩ = some (.string s) := by
  obtain ⟨a, cap, e, _, hel⟩ := hs
  obtain ⟨b, o, u, e1, e2, e3, e4, e5⟩ := hel 0 (by simp)
  injection e with x1 _ _
  exact ⟨b, o, x1.trans e1, e2.1, e2.2, by rw [froz_of]; exact e3, by rw [cell_of]; rw [Nat.add_zero] at e4; rw [e4, e5]; rfl⟩
theorem seq_one {w : World} {b i c : Nat} {s : ByteArray} (h : w.cell? ⟨b, i, none⟩ = some (.string s)) : SeqAt IsText w.heap (.slice (some ⟨b, i, none⟩) 1 c) [s] :=
  ⟨_, c, rfl, by simp, fun j hj => by
    have hj0 : j = 0 := by simpa using hj
    subst hj0
    exact ⟨b, i, _, rfl, by rw [Nat.add_zero, ← cell_of]; exact h, rfl⟩⟩
def nnmA (G2 G3 G4 C1 : Nat) (p4 : Option Addr) (q4 : Nat) : Nat → Value → World → Prop
  | 9, v, w => ∃ p q, v = .agg #[.string ⟨#[97]⟩, .bool false, .int .i64 1025, .slice p 1 q] ∧ 1 ≤ q ∧ SeqAt IsText w.heap (.slice p 1 q) (List.replicate 1 chC)
  | 10, v, w => ∃ p q, v = .agg #[.string ⟨#[97]⟩, .bool false, .int .i64 16385, .slice p 17 q] ∧ 17 ≤ q ∧ SeqAt IsText w.heap (.slice p 17 q) (List.replicate 17 chC)
  | 12, v, w => ∃ p q, v = .agg #[.string ⟨#[97]⟩, .bool false, .int .i64 1, .slice p 2 q] ∧ 2 ≤ q ∧ SeqAt IsText w.heap (.slice p 2 q) (List.replicate 2 chC)
  | 13, v, w => ∃ p q, v = .agg #[.string ⟨#[97]⟩, .bool false, .int .i64 0, .slice p 1 q] ∧ 1 ≤ q ∧ SeqAt IsText w.heap (.slice p 1 q) (List.replicate 1 chC)
  | 14, v, w => ∃ g, v = .slice (some ⟨g, 0, none⟩) 13 13 ∧ EntsAt w.heap v L13
  | i, v, _ => v = ([.agg #[.string ⟨#[100]⟩, .bool true, .int .i64 1, .slice (some ⟨C1, 0, none⟩) 1 1], .agg #[.string ⟨#[100]⟩, .bool true, .int .i64 0, .slice none 0 0], .agg #[.string ⟨#[97]⟩, .bool false, .int .i64 1, .slice p4 1 q4], .agg #[.string ⟨#[]⟩, .bool false, .int .i64 0, .slice none 0 0], .agg #[.string ⟨#[46]⟩, .bool false, .int .i64 0, .slice none 0 0], .agg #[.string ⟨#[46, 46]⟩, .bool false, .int .i64 0, .slice none 0 0], .agg #[.string ⟨#[97, 32, 98]⟩, .bool false, .int .i64 0, .slice none 0 0], .string a33, .agg #[.string a33, .bool false, .int .i64 0, .slice none 0 0], undef, undef, .agg #[.string ⟨#[97]⟩, .bool false, .int .i64 (-1), .slice none 0 0], undef, undef, undef, .int .i64 13, .int .i64 0] : List Value).getD i undef
theorem nnmA_kp {G2 G3 G4 C1 : Nat} {p4 : Option Addr} {q4 : Nat} (i : Nat) (v : Value) (w w' : World) (c : Keeps w w') (h : nnmA G2 G3 G4 C1 p4 q4 i v w) : nnmA G2 G3 G4 C1 p4 q4 i v w' := by
  match i, h with
  | 0, h => exact h
  | 1, h => exact h
  | 2, h => exact h
  | 3, h => exact h
  | 4, h => exact h
  | 5, h => exact h
  | 6, h => exact h
  | 7, h => exact h
  | 8, h => exact h
  | 9, h => exact (let ⟨p, q, e, hq, hs⟩ := h; ⟨p, q, e, hq, SeqAt.keeps hs c⟩)
  | 10, h => exact (let ⟨p, q, e, hq, hs⟩ := h; ⟨p, q, e, hq, SeqAt.keeps hs c⟩)
  | 11, h => exact h
  | 12, h => exact (let ⟨p, q, e, hq, hs⟩ := h; ⟨p, q, e, hq, SeqAt.keeps hs c⟩)
  | 13, h => exact (let ⟨p, q, e, hq, hs⟩ := h; ⟨p, q, e, hq, SeqAt.keeps hs c⟩)
  | 14, h => exact (let ⟨g, e, hs⟩ := h; ⟨g, e, EntsAt.keeps hs c⟩)
  | 15, h => exact h
  | 16, h => exact h
  | _ + 17, h => exact h
def nnmB (G1 C1 : Nat) : Nat → Value → World → Prop
  | 1, v, w => ∃ p q, v = .agg #[.string ⟨#[97]⟩, .bool false, .int .i64 1, .slice p 1 q] ∧ 1 ≤ q ∧ SeqAt IsText w.heap (.slice p 1 q) (List.replicate 1 chC)
  | 2, v, w => ∃ p q, v = .agg #[.string ⟨#[97]⟩, .bool false, .int .i64 1024, .slice p 1 q] ∧ 1 ≤ q ∧ SeqAt IsText w.heap (.slice p 1 q) (List.replicate 1 chC)
  | 3, v, w => ∃ p q, v = .agg #[.string ⟨#[97]⟩, .bool false, .int .i64 16384, .slice p 16 q] ∧ 16 ≤ q ∧ SeqAt IsText w.heap (.slice p 16 q) (List.replicate 16 chC)
  | 4, v, w => ∃ p q, v = .agg #[.string ⟨#[97]⟩, .bool false, .int .i64 2, .slice p 2 q] ∧ 2 ≤ q ∧ SeqAt IsText w.heap (.slice p 2 q) (List.replicate 2 chC)
  | 7, v, w => ∃ g, v = .slice (some ⟨g, 0, none⟩) 6 6 ∧ EntsAt w.heap v L6
  | i, v, _ => v = ([.agg #[.string ⟨#[100]⟩, .bool true, .int .i64 0, .slice (some ⟨C1, 0, none⟩) 1 1], undef, undef, undef, undef, .string t32, .agg #[.string t32, .bool false, .int .i64 0, .slice none 0 0], undef, .int .i64 6, .int .i64 0] : List Value).getD i undef
theorem nnmB_kp {G1 C1 : Nat} (i : Nat) (v : Value) (w w' : World) (c : Keeps w w') (h : nnmB G1 C1 i v w) : nnmB G1 C1 i v w' := by
  match i, h with
  | 0, h => exact h
  | 1, h => exact (let ⟨p, q, e, hq, hs⟩ := h; ⟨p, q, e, hq, SeqAt.keeps hs c⟩)
  | 2, h => exact (let ⟨p, q, e, hq, hs⟩ := h; ⟨p, q, e, hq, SeqAt.keeps hs c⟩)
  | 3, h => exact (let ⟨p, q, e, hq, hs⟩ := h; ⟨p, q, e, hq, SeqAt.keeps hs c⟩)
  | 4, h => exact (let ⟨p, q, e, hq, hs⟩ := h; ⟨p, q, e, hq, SeqAt.keeps hs c⟩)
  | 5, h => exact h
  | 6, h => exact h
  | 7, h => exact (let ⟨g, e, hs⟩ := h; ⟨g, e, EntsAt.keeps hs c⟩)
  | 8, h => exact h
  | 9, h => exact h
  | _ + 10, h => exact h
set_option maxRecDepth 100000 in
set_option maxHeartbeats 8000000 in
theorem nodenames_any (w : World) : Calls Tryd.prog 12 #[] w fun e w' => e = .returned (.bool true) ∧ Keeps w w' := by
  have HMD : Hid (∀ wx, Calls Tryd.prog 43 #[.int .i64 32, .int .u8 100] wx fun e w' => e = .returned (.string chD) ∧ Keeps wx w') := fun wx => many_any 32 100 wx (by decide)
  have HM33 : Hid (∀ wx, Calls Tryd.prog 43 #[.int .i64 33, .int .u8 97] wx fun e w' => e = .returned (.string a33) ∧ Keeps wx w') := fun wx => many_any 33 97 wx (by decide)
  have HM32 : Hid (∀ wx, Calls Tryd.prog 43 #[.int .i64 32, .int .u8 126] wx fun e w' => e = .returned (.string t32) ∧ Keeps wx w') := fun wx => many_any 32 126 wx (by decide)
  go_enter Tryd.func12, Tryd.ntmps12
  go_wp2_with fail
  refine Calls.mono (works_any _) ?_
  rintro e w1 ⟨rfl, hk1⟩
  have HK := Lib.hid hk1
  clear hk1
  go_wp2_with fail
  refine Calls.mono (HMD.out _) ?_
  rintro e w2 ⟨rfl, hk2⟩
  have HK := Lib.hid (HK.out.trans hk2)
  clear hk2 HMD
  go_upto_region 4 with fail
  refine (fun (h : ∀ wx : World, BlkAt wx w2.heap.size 9 #[.string chD] → BlkAt wx (w2.heap.size + 1) 33 #[.string ⟨#[100]⟩, .bool true, .int .i64 0, .slice (some ⟨w2.heap.size, 0, none⟩) 1 1] → Keeps w2 wx → Code.wp _ _ _ _ wx) => h _ (by exact (BlkAt.new w2 _ _).keeps (kal _ _)) (by exact heap_alloc_last1 w2 _ _) (by exact (kal _ _).trans (kal _ _))) ?_
  intro w3 hc1 hb1 hk3
  have HK := Lib.hid (HK.out.trans hk3)
  obtain ⟨C1, hC⟩ : ∃ C, w2.heap.size = C := ⟨_, rfl⟩
  rw [hC] at hc1 hb1 ⊢
  obtain ⟨G1, hG⟩ : ∃ G, C1 + 1 = G := ⟨_, rfl⟩
  rw [hG] at hb1 ⊢
  have HB1 := Lib.hid hb1
  have HC0 := Lib.hid hc1
  have HN1 : Hid (C1 < G1 ∧ G1 < w3.heap.size) := ⟨by omega, hb1.lt⟩
  clear hc1 hb1 hk3 hC hG
  have HKE0 : Hid True := trivial
  clear HKE0
  have ltG1 : G1 < w3.heap.size := HB1.out.lt
  have ltC1 : C1 < w3.heap.size := HC0.out.lt
  have hkw : w.heap.size ≤ w3.heap.size := HK.out.size
  have d0 : w3.cell? ⟨G1, 0, none⟩ = some (.string ⟨#[100]⟩) := HB1.out.cell rfl
  have d1 : w3.cell? ⟨G1, 1, none⟩ = some (.bool true) := HB1.out.cell rfl
  have d2 : w3.cell? ⟨G1, 2, none⟩ = some (.int .i64 0) := HB1.out.cell rfl
  have d3 : w3.cell? ⟨G1, 3, none⟩ = some (.slice (some ⟨C1, 0, none⟩) 1 1) := HB1.out.cell rfl
  go_upto_region 5 with (refine wpList_store_row rfl 33 (.tmp 2) (.tmp 40) rfl w3.heap.size #[.string ⟨#[100]⟩, .bool true, .int .i64 0, .slice (some ⟨C1, 0, none⟩) 1 1] rfl rfl 33 _ (heap_alloc_last w3 _) (by kernel_rfl) rfl (by decide) ?_; rw [World.setRow_alloc_new])
  clear d0 d1 d2 d3
  refine (fun (h : ∀ wx : World, BlkAt wx w3.heap.size 33 #[.string ⟨#[100]⟩, .bool true, .int .i64 0, .slice (some ⟨C1, 0, none⟩) 1 1] → Keeps w3 wx → Code.wp _ _ _ _ wx) => h _ (by exact BlkAt.new _ _ _) (by exact kal _ _)) ?_
  intro wx hb hk
  have HK := Lib.hid (HK.out.trans hk)
  have HB1 := Lib.hid (HB1.out.keeps hk)
  have HC0 := Lib.hid (HC0.out.keeps hk)
  skip
  obtain ⟨G2, hG2⟩ : ∃ G, w3.heap.size = G := ⟨_, rfl⟩
  rw [hG2] at hb ⊢
  have neG1 : G1 ≠ G2 := by rw [← hG2]; have := ltG1; omega
  have neC1 : C1 ≠ G2 := by rw [← hG2]; have := ltC1; omega
  have hgw : w.heap.size ≤ G2 := by rw [← hG2]; exact hkw
  have c0 : wx.cell? ⟨G2, 2, none⟩ = some (.int .i64 0) := hb.cell rfl
  have f0 := hb.froz 2
  have HBN := Lib.hid hb
  clear hb hk
  go_upto_region 6 with fail
  clear c0 f0
  refine (fun (h : ∀ wy : World, BlkAt wy G2 33 #[.string ⟨#[100]⟩, .bool true, .int .i64 1, .slice (some ⟨C1, 0, none⟩) 1 1] → Chg (fun k => k = G2) wx wy → Code.wp _ _ _ _ wy) => h _ (by exact HBN.out.set 2 _) (by exact chg_set _ _ _ _)) ?_
  intro w4 hb hc
  have HB2 := Lib.hid hb
  have HB1 := Lib.hid (HB1.out.chg hc (by exact neG1))
  have HC0 := Lib.hid (HC0.out.chg hc (by exact neC1))
  have HK : Hid (Keeps w w4) := ((Kept.any (T := fun k => k = G2) HK.out).trans hc).keeps fun k h1 h2 => by omega
  clear hb hc HBN hgw hkw neG1 neC1 ltG1 ltC1
  clear hG2
  have ltG1 : G1 < w4.heap.size := HB1.out.lt
  have ltC1 : C1 < w4.heap.size := HC0.out.lt
  have ltG2 : G2 < w4.heap.size := HB2.out.lt
  have hkw : w.heap.size ≤ w4.heap.size := HK.out.size
  have d0 : w4.cell? ⟨G1, 0, none⟩ = some (.string ⟨#[100]⟩) := HB1.out.cell rfl
  have d1 : w4.cell? ⟨G1, 1, none⟩ = some (.bool true) := HB1.out.cell rfl
  have d2 : w4.cell? ⟨G1, 2, none⟩ = some (.int .i64 0) := HB1.out.cell rfl
  have d3 : w4.cell? ⟨G1, 3, none⟩ = some (.slice (some ⟨C1, 0, none⟩) 1 1) := HB1.out.cell rfl
  go_upto_region 7 with (refine wpList_store_row rfl 33 (.tmp 3) (.tmp 42) rfl w4.heap.size #[.string ⟨#[100]⟩, .bool true, .int .i64 0, .slice (some ⟨C1, 0, none⟩) 1 1] rfl rfl 33 _ (heap_alloc_last w4 _) (by kernel_rfl) rfl (by decide) ?_; rw [World.setRow_alloc_new])
  clear d0 d1 d2 d3
  refine (fun (h : ∀ wx : World, BlkAt wx w4.heap.size 33 #[.string ⟨#[100]⟩, .bool true, .int .i64 0, .slice (some ⟨C1, 0, none⟩) 1 1] → Keeps w4 wx → Code.wp _ _ _ _ wx) => h _ (by exact BlkAt.new _ _ _) (by exact kal _ _)) ?_
  intro wx hb hk
  have HK := Lib.hid (HK.out.trans hk)
  have HB1 := Lib.hid (HB1.out.keeps hk)
  have HC0 := Lib.hid (HC0.out.keeps hk)
  have HB2 := Lib.hid (HB2.out.keeps hk)
  skip
  obtain ⟨G3, hG3⟩ : ∃ G, w4.heap.size = G := ⟨_, rfl⟩
  rw [hG3] at hb ⊢
  have neG1 : G1 ≠ G3 := by rw [← hG3]; have := ltG1; omega
  have neC1 : C1 ≠ G3 := by rw [← hG3]; have := ltC1; omega
  have neG2 : G2 ≠ G3 := by rw [← hG3]; have := ltG2; omega
  have hgw : w.heap.size ≤ G3 := by rw [← hG3]; exact hkw
  have c0 : wx.cell? ⟨G3, 3, none⟩ = some (.slice (some ⟨C1, 0, none⟩) 1 1) := hb.cell rfl
  have f0 := hb.froz 3
  have HBN := Lib.hid hb
  clear hb hk
  go_upto_region 8 with fail
  clear c0 f0
  refine (fun (h : ∀ wy : World, BlkAt wy G3 33 #[.string ⟨#[100]⟩, .bool true, .int .i64 0, .slice none 0 0] → Chg (fun k => k = G3) wx wy → Code.wp _ _ _ _ wy) => h _ (by exact HBN.out.set 3 _) (by exact chg_set _ _ _ _)) ?_
  intro w5 hb hc
  have HB3 := Lib.hid hb
  have HB1 := Lib.hid (HB1.out.chg hc (by exact neG1))
  have HC0 := Lib.hid (HC0.out.chg hc (by exact neC1))
  have HB2 := Lib.hid (HB2.out.chg hc (by exact neG2))
  have HK : Hid (Keeps w w5) := ((Kept.any (T := fun k => k = G3) HK.out).trans hc).keeps fun k h1 h2 => by omega
  clear hb hc HBN hgw hkw neG1 neC1 neG2 ltG1 ltC1 ltG2
  clear hG3
  go_wp2_with fail
  refine Calls.mono (file_any ⟨#[97]⟩ 1 1 _ (by decide)) ?_
  rintro e w6 ⟨p4, q4, rfl, hs4, hq4, hk6⟩
  have ltG1 : G1 < w5.heap.size := HB1.out.lt
  have ltC1 : C1 < w5.heap.size := HC0.out.lt
  have ltG2 : G2 < w5.heap.size := HB2.out.lt
  have ltG3 : G3 < w5.heap.size := HB3.out.lt
  have hkw : w.heap.size ≤ w5.heap.size := HK.out.size
  have HK := Lib.hid (HK.out.trans hk6)
  have HB1 := Lib.hid (HB1.out.keeps hk6)
  have HC0 := Lib.hid (HC0.out.keeps hk6)
  have HB2 := Lib.hid (HB2.out.keeps hk6)
  have HB3 := Lib.hid (HB3.out.keeps hk6)
  have HQ4 : Hid (1 ≤ q4) := hq4
  go_upto_region 9 with (refine wpList_store_row rfl 33 (.tmp 4) (.tmp 44) rfl w6.heap.size #[.string ⟨#[97]⟩, .bool false, .int .i64 1, .slice p4 1 q4] rfl rfl 33 _ (heap_alloc_last w6 _) (by kernel_rfl) rfl (entA_one _ false 1 _ _ _) ?_; rw [World.setRow_alloc_new])
  refine (fun (h : ∀ wx : World, BlkAt wx w6.heap.size 33 #[.string ⟨#[97]⟩, .bool false, .int .i64 1, .slice p4 1 q4] → Keeps w6 wx → Code.wp _ _ _ _ wx) => h _ (by exact BlkAt.new _ _ _) (by exact kal _ _)) ?_
  intro w7 hb4 hk7
  have hs4 := SeqIn.chg (T := fun _ => False) hs4 (Kept.any hk7) (fun _ _ _ _ x => x) (R' := IsText) fun _ _ _ x => x
  have HK := Lib.hid (HK.out.trans hk7)
  have HB1 := Lib.hid (HB1.out.keeps hk7)
  have HC0 := Lib.hid (HC0.out.keeps hk7)
  have HB2 := Lib.hid (HB2.out.keeps hk7)
  have HB3 := Lib.hid (HB3.out.keeps hk7)
  obtain ⟨G4, hG4⟩ : ∃ G, w6.heap.size = G := ⟨_, rfl⟩
  rw [hG4] at hb4 ⊢
  obtain ⟨b4, o4, rfl, hbb, htt, hfr, hce⟩ := seq_first (s := chC) (l := []) hs4
  have d3 : w7.cell? ⟨G4, 3, none⟩ = some (.slice (some ⟨b4, o4, none⟩) 1 q4) := hb4.cell rfl
  have HB4 := Lib.hid hb4
  have HTT := Lib.hid htt
  have HBB := Lib.hid hbb
  have HCE := Lib.hid hce
  clear hbb htt hb4 hG4 hs4 hk6 hk7 hq4
  go_upto_region 10 with fail
  clear d3 hce hfr
  refine (fun (h : ∀ wy : World, wy.cell? ⟨b4, o4, none⟩ = some (.string ⟨#[99]⟩) → Chg (fun k => k = b4) w7 wy → Code.wp _ _ _ _ wy) => h _ (by exact cell_put HCE.out _) (by exact chg_set _ _ _ _)) ?_
  intro wf hce hc
  have nb : ∀ {G : Nat}, typH w7.heap G = some 33 → ¬ G = b4 := fun h e => by subst e; rw [HTT.out] at h; exact absurd h (by decide)
  have HB1 := Lib.hid (HB1.out.chg hc (nb HB1.out.typ))
  have HB2 := Lib.hid (HB2.out.chg hc (nb HB2.out.typ))
  have HB3 := Lib.hid (HB3.out.chg hc (nb HB3.out.typ))
  have HB4 := Lib.hid (HB4.out.chg hc (nb HB4.out.typ))
  have HC0 := Lib.hid (HC0.out.chg hc (by have := HBB.out; omega))
  have HK : Hid (Keeps w wf) := ((Kept.any (T := fun k => k = b4) HK.out).trans hc).keeps fun k h1 h2 => by have := HBB.out; omega
  have HC4 : Hid (SeqAt IsText wf.heap (.slice (some ⟨b4, o4, none⟩) 1 q4) [⟨#[99]⟩]) := seq_one hce
  have HC1 : Hid (SeqAt IsText wf.heap (.slice (some ⟨C1, 0, none⟩) 1 1) [chD]) := seq_one (HC0.out.cell rfl)
  obtain ⟨p4, hp4⟩ : ∃ p4 : Option Addr, some ⟨b4, o4, none⟩ = p4 := ⟨_, rfl⟩
  rw [hp4] at HC4 HB4
  clear hce hc nb HTT HBB HCE HC0 hp4
  have K20 : Hid (wf.cell? ⟨G2, 0, none⟩ = some (.string ⟨#[100]⟩)) := HB2.out.cell rfl
  have K21 : Hid (wf.cell? ⟨G2, 1, none⟩ = some (.bool true)) := HB2.out.cell rfl
  have K22 : Hid (wf.cell? ⟨G2, 2, none⟩ = some (.int .i64 1)) := HB2.out.cell rfl
  have K23 : Hid (wf.cell? ⟨G2, 3, none⟩ = some (.slice (some ⟨C1, 0, none⟩) 1 1)) := HB2.out.cell rfl
  have K30 : Hid (wf.cell? ⟨G3, 0, none⟩ = some (.string ⟨#[100]⟩)) := HB3.out.cell rfl
  have K31 : Hid (wf.cell? ⟨G3, 1, none⟩ = some (.bool true)) := HB3.out.cell rfl
  have K32 : Hid (wf.cell? ⟨G3, 2, none⟩ = some (.int .i64 0)) := HB3.out.cell rfl
  have K33 : Hid (wf.cell? ⟨G3, 3, none⟩ = some (.slice none 0 0)) := HB3.out.cell rfl
  have K40 : Hid (wf.cell? ⟨G4, 0, none⟩ = some (.string ⟨#[97]⟩)) := HB4.out.cell rfl
  have K41 : Hid (wf.cell? ⟨G4, 1, none⟩ = some (.bool false)) := HB4.out.cell rfl
  have K42 : Hid (wf.cell? ⟨G4, 2, none⟩ = some (.int .i64 1)) := HB4.out.cell rfl
  have K43 : Hid (wf.cell? ⟨G4, 3, none⟩ = some (.slice p4 1 q4)) := HB4.out.cell rfl
  refine wp_region_lineG [48, 49, 50, 51, 52, 53, 54, 55, 56, 57, 58, 59, 60, 61, 62, 63, 64] [[], [], [], [], [], [], [], [], [7], [], [], [], [], [], [0, 1, 2, 3, 4, 5, 6, 8, 9, 10, 11, 12, 13], [14], []] [[], [], [], [], [], [], [], [], [], [], [], [], [], [], [], [], []] [] (nnmA G2 G3 G4 C1 p4 q4) (by kernel_rfl) (by kernel_rfl) (by kernel_rfl) (by kernel_rfl) (by kernel_rfl) (by kernel_rfl) ?_ ?_ ?_
  · refine ⟨?_, ?_, ?_, ?_, ?_, ?_, ?_, ?_, ?_, ?_, ?_, ?_, ?_, ?_, ?_, ?_, ?_, trivial⟩
    · exact fun g b h => by (cases h)
    · exact fun g b h => by (cases h)
    · exact fun g b h => by (cases h)
    · exact fun g b h => by (cases h)
    · exact fun g b h => by (cases h)
    · exact fun g b h => by (cases h)
    · exact fun g b h => by (cases h)
    · exact fun g b h => by (cases h)
    · exact fun g b h => by (cases h)
    · exact fun g b h => by (cases h)
    · exact fun g b h => by (cases h)
    · exact fun g b h => by (cases h)
    · exact fun g b h => by (cases h)
    · exact fun g b h => by (cases h)
    · exact fun g b h => by (cases h)
    · exact fun g b h => by (cases h)
    · exact fun g b h => by (cases h)
  · refine ⟨?_, ?_, ?_, ?_, ?_, ?_, ?_, ?_, ?_, ?_, ?_, ?_, ?_, ?_, ?_, ?_, ?_, trivial⟩
    · intro _ a w1 vs hk ho hn K hK
      have e2 : a.tmps[2]? = some (.pointer (some ⟨G2, 0, none⟩)) := ho 2 rfl
      clear hn ho
      have c0 := keeps_cell hk K20.out
      have c1 := keeps_cell hk K21.out
      have c2 := keeps_cell hk K22.out
      have c3 := keeps_cell hk K23.out
      go_simp
      exact hK _ _ hk (fun _ _ _ _ _ _ h => h) rfl
    · intro _ a w1 vs hk ho hn K hK
      have e3 : a.tmps[3]? = some (.pointer (some ⟨G3, 0, none⟩)) := ho 3 rfl
      clear hn ho
      have c0 := keeps_cell hk K30.out
      have c1 := keeps_cell hk K31.out
      have c2 := keeps_cell hk K32.out
      have c3 := keeps_cell hk K33.out
      go_simp
      exact hK _ _ hk (fun _ _ _ _ _ _ h => h) rfl
    · intro _ a w1 vs hk ho hn K hK
      have e4 : a.tmps[4]? = some (.pointer (some ⟨G4, 0, none⟩)) := ho 4 rfl
      clear hn ho
      have c0 := keeps_cell hk K40.out
      have c1 := keeps_cell hk K41.out
      have c2 := keeps_cell hk K42.out
      have c3 := keeps_cell hk K43.out
      go_simp
      exact hK _ _ hk (fun _ _ _ _ _ _ h => h) rfl
    · intro _ a w1 vs hk ho hn K hK
      clear hn ho
      go_simp
      refine Calls.mono (file_nil ⟨#[]⟩ _) ?_
      rintro e w' ⟨rfl, KK⟩
      go_simp
      exact hK _ _ (hk.trans KK) (fun j u _ _ _ _ h => nnmA_kp j u _ _ KK h) rfl
    · intro _ a w1 vs hk ho hn K hK
      clear hn ho
      go_simp
      refine Calls.mono (file_nil ⟨#[46]⟩ _) ?_
      rintro e w' ⟨rfl, KK⟩
      go_simp
      exact hK _ _ (hk.trans KK) (fun j u _ _ _ _ h => nnmA_kp j u _ _ KK h) rfl
    · intro _ a w1 vs hk ho hn K hK
      clear hn ho
      go_simp
      refine Calls.mono (file_nil ⟨#[46, 46]⟩ _) ?_
      rintro e w' ⟨rfl, KK⟩
      go_simp
      exact hK _ _ (hk.trans KK) (fun j u _ _ _ _ h => nnmA_kp j u _ _ KK h) rfl
    · intro _ a w1 vs hk ho hn K hK
      clear hn ho
      go_simp
      refine Calls.mono (file_nil ⟨#[97, 32, 98]⟩ _) ?_
      rintro e w' ⟨rfl, KK⟩
      go_simp
      exact hK _ _ (hk.trans KK) (fun j u _ _ _ _ h => nnmA_kp j u _ _ KK h) rfl
    · intro _ a w1 vs hk ho hn K hK
      clear hn ho
      go_simp
      refine Calls.mono (HM33.out _) ?_
      rintro e w' ⟨rfl, KK⟩
      go_simp
      exact hK _ _ (hk.trans KK) (fun j u _ _ _ _ h => nnmA_kp j u _ _ KK h) rfl
    · intro _ a w1 vs hk ho hn K hK
      obtain ⟨e55, g55⟩ : a.tmps[55]? = some (vs 7) ∧ vs 7 = .string a33 := hn 7 (by decide)
      rw [g55] at e55
      clear g55
      clear hn ho
      go_simp
      refine Calls.mono (file_nil a33 _) ?_
      rintro e w' ⟨rfl, KK⟩
      go_simp
      exact hK _ _ (hk.trans KK) (fun j u _ _ _ _ h => nnmA_kp j u _ _ KK h) rfl
    · intro _ a w1 vs hk ho hn K hK
      clear hn ho
      go_simp
      refine Calls.mono (file_at ⟨#[97]⟩ 1025 1 (by decide) _) ?_
      rintro e w' ⟨p, q, rfl, hs, hq, KK⟩
      go_simp
      exact hK _ _ (hk.trans KK) (fun j u _ _ _ _ h => nnmA_kp j u _ _ KK h) ⟨p, q, rfl, hq, hs⟩
    · intro _ a w1 vs hk ho hn K hK
      clear hn ho
      go_simp
      refine Calls.mono (file_at ⟨#[97]⟩ 16385 17 (by decide) _) ?_
      rintro e w' ⟨p, q, rfl, hs, hq, KK⟩
      go_simp
      exact hK _ _ (hk.trans KK) (fun j u _ _ _ _ h => nnmA_kp j u _ _ KK h) ⟨p, q, rfl, hq, hs⟩
    · intro _ a w1 vs hk ho hn K hK
      clear hn ho
      go_simp
      refine Calls.mono (file0_any ⟨#[97]⟩ (-1) _) ?_
      rintro e w' ⟨rfl, KK⟩
      unfold fileV
      go_simp
      exact hK _ _ (hk.trans KK) (fun j u _ _ _ _ h => nnmA_kp j u _ _ KK h) rfl
    · intro _ a w1 vs hk ho hn K hK
      clear hn ho
      go_simp
      refine Calls.mono (file_at ⟨#[97]⟩ 1 2 (by decide) _) ?_
      rintro e w' ⟨p, q, rfl, hs, hq, KK⟩
      go_simp
      exact hK _ _ (hk.trans KK) (fun j u _ _ _ _ h => nnmA_kp j u _ _ KK h) ⟨p, q, rfl, hq, hs⟩
    · intro _ a w1 vs hk ho hn K hK
      clear hn ho
      go_simp
      refine Calls.mono (file_at ⟨#[97]⟩ 0 1 (by decide) _) ?_
      rintro e w' ⟨p, q, rfl, hs, hq, KK⟩
      go_simp
      exact hK _ _ (hk.trans KK) (fun j u _ _ _ _ h => nnmA_kp j u _ _ KK h) ⟨p, q, rfl, hq, hs⟩
    · intro _ a w1 vs hk ho hn K hK
      obtain ⟨e48, g48⟩ : a.tmps[48]? = some (vs 0) ∧ vs 0 = .agg #[.string ⟨#[100]⟩, .bool true, .int .i64 1, .slice (some ⟨C1, 0, none⟩) 1 1] := hn 0 (by decide)
      rw [g48] at e48
      clear g48
      obtain ⟨e49, g49⟩ : a.tmps[49]? = some (vs 1) ∧ vs 1 = .agg #[.string ⟨#[100]⟩, .bool true, .int .i64 0, .slice none 0 0] := hn 1 (by decide)
      rw [g49] at e49
      clear g49
      obtain ⟨e50, g50⟩ : a.tmps[50]? = some (vs 2) ∧ vs 2 = .agg #[.string ⟨#[97]⟩, .bool false, .int .i64 1, .slice p4 1 q4] := hn 2 (by decide)
      rw [g50] at e50
      clear g50
      obtain ⟨e51, g51⟩ : a.tmps[51]? = some (vs 3) ∧ vs 3 = .agg #[.string ⟨#[]⟩, .bool false, .int .i64 0, .slice none 0 0] := hn 3 (by decide)
      rw [g51] at e51
      clear g51
      obtain ⟨e52, g52⟩ : a.tmps[52]? = some (vs 4) ∧ vs 4 = .agg #[.string ⟨#[46]⟩, .bool false, .int .i64 0, .slice none 0 0] := hn 4 (by decide)
      rw [g52] at e52
      clear g52
      obtain ⟨e53, g53⟩ : a.tmps[53]? = some (vs 5) ∧ vs 5 = .agg #[.string ⟨#[46, 46]⟩, .bool false, .int .i64 0, .slice none 0 0] := hn 5 (by decide)
      rw [g53] at e53
      clear g53
      obtain ⟨e54, g54⟩ : a.tmps[54]? = some (vs 6) ∧ vs 6 = .agg #[.string ⟨#[97, 32, 98]⟩, .bool false, .int .i64 0, .slice none 0 0] := hn 6 (by decide)
      rw [g54] at e54
      clear g54
      obtain ⟨e56, g56⟩ : a.tmps[56]? = some (vs 8) ∧ vs 8 = .agg #[.string a33, .bool false, .int .i64 0, .slice none 0 0] := hn 8 (by decide)
      rw [g56] at e56
      clear g56
      obtain ⟨e57, g57⟩ : a.tmps[57]? = some (vs 9) ∧ ∃ p q, (vs 9) = .agg #[.string ⟨#[97]⟩, .bool false, .int .i64 1025, .slice p 1 q] ∧ 1 ≤ q ∧ SeqAt IsText w1.heap (.slice p 1 q) (List.replicate 1 chC) := hn 9 (by decide)
      obtain ⟨e58, g58⟩ : a.tmps[58]? = some (vs 10) ∧ ∃ p q, (vs 10) = .agg #[.string ⟨#[97]⟩, .bool false, .int .i64 16385, .slice p 17 q] ∧ 17 ≤ q ∧ SeqAt IsText w1.heap (.slice p 17 q) (List.replicate 17 chC) := hn 10 (by decide)
      obtain ⟨e59, g59⟩ : a.tmps[59]? = some (vs 11) ∧ vs 11 = .agg #[.string ⟨#[97]⟩, .bool false, .int .i64 (-1), .slice none 0 0] := hn 11 (by decide)
      rw [g59] at e59
      clear g59
      obtain ⟨e60, g60⟩ : a.tmps[60]? = some (vs 12) ∧ ∃ p q, (vs 12) = .agg #[.string ⟨#[97]⟩, .bool false, .int .i64 1, .slice p 2 q] ∧ 2 ≤ q ∧ SeqAt IsText w1.heap (.slice p 2 q) (List.replicate 2 chC) := hn 12 (by decide)
      obtain ⟨e61, g61⟩ : a.tmps[61]? = some (vs 13) ∧ ∃ p q, (vs 13) = .agg #[.string ⟨#[97]⟩, .bool false, .int .i64 0, .slice p 1 q] ∧ 1 ≤ q ∧ SeqAt IsText w1.heap (.slice p 1 q) (List.replicate 1 chC) := hn 13 (by decide)
      clear hn ho
      obtain ⟨p57, q57, r57, hq57, hs57⟩ := g57
      rw [r57] at e57
      obtain ⟨p58, q58, r58, hq58, hs58⟩ := g58
      rw [r58] at e58
      obtain ⟨p60, q60, r60, hq60, hs60⟩ := g60
      rw [r60] at e60
      obtain ⟨p61, q61, r61, hq61, hs61⟩ := g61
      rw [r61] at e61
      go_simp
      exact hK _ _ (hk.trans (kal _ _)) (fun j u _ _ _ _ h => nnmA_kp j u _ _ (kal _ _) h) ⟨_, rfl, ents_litL w1 [_, _, _, _, _, _, _, _, _, _, _, _, _] (l := L13) rfl (EntsL.cons (isEnt_lit (SeqAt.keeps HC1.out hk) (Nat.le_refl _)) (EntsL.cons (isEnt_nil) (EntsL.cons (isEnt_lit (SeqAt.keeps HC4.out hk) HQ4.out) (EntsL.cons (isEnt_nil) (EntsL.cons (isEnt_nil) (EntsL.cons (isEnt_nil) (EntsL.cons (isEnt_nil) (EntsL.cons (isEnt_nil) (EntsL.cons (isEnt_lit hs57 hq57) (EntsL.cons (isEnt_lit hs58 hq58) (EntsL.cons (isEnt_nil) (EntsL.cons (isEnt_lit hs60 hq60) (EntsL.cons (isEnt_lit hs61 hq61) (EntsL.nil)))))))))))))) rfl (by decide) rfl⟩
    · intro _ a w1 vs hk ho hn K hK
      obtain ⟨e62, g62⟩ : a.tmps[62]? = some (vs 14) ∧ ∃ g, (vs 14) = .slice (some ⟨g, 0, none⟩) 13 13 ∧ EntsAt w1.heap (vs 14) L13 := hn 14 (by decide)
      clear hn ho
      obtain ⟨g, r, _⟩ := g62
      rw [r] at e62
      go_simp
      exact hK _ _ hk (fun _ _ _ _ _ _ h => h) rfl
    · intro _ a w1 vs hk ho hn K hK
      clear hn ho
      go_simp
      exact hK _ _ hk (fun _ _ _ _ _ _ h => h) rfl
  intro vs wE hI hG
  have h62 : ∃ g, (vs 14) = .slice (some ⟨g, 0, none⟩) 13 13 ∧ EntsAt wE.heap (vs 14) L13 := hG 14 (by decide) (by decide)
  have eL15 : vs 15 = .int .i64 13 := hG 15 (by decide) (by decide)
  have eL16 : vs 16 = .int .i64 0 := hG 16 (by decide) (by decide)
  have HKE := Lib.hid hI
  clear hG hI
  simp only [setAll, Nat.zero_add, Nat.reduceAdd, List.setIfInBounds_toArray, List.set_cons_zero, List.set_cons_succ, eL15, eL16]
  clear eL15 eL16
  generalize vs 0 = y0 at *
  generalize vs 1 = y1 at *
  generalize vs 2 = y2 at *
  generalize vs 3 = y3 at *
  generalize vs 4 = y4 at *
  generalize vs 5 = y5 at *
  generalize vs 6 = y6 at *
  generalize vs 7 = y7 at *
  generalize vs 8 = y8 at *
  generalize vs 9 = y9 at *
  generalize vs 10 = y10 at *
  generalize vs 11 = y11 at *
  generalize vs 12 = y12 at *
  generalize vs 13 = y13 at *
  generalize vs 14 = y14 at *
  obtain ⟨g13, e13, hl13⟩ := h62
  rw [e13] at hl13 ⊢
  have HL := Lib.hid hl13
  have HKE0 := Lib.hid HKE.out
  clear hl13 e13 HKE
  obtain ⟨wl, rfl⟩ : ∃ wy : World, wy = wE := ⟨_, rfl⟩
  clear K20 K21 K22 K23 K30 K31 K32 K33 K40 K41 K42 K43 HC4 HM33
  have HB1 := Lib.hid (HB1.out.keeps HKE0.out)
  have HC1 := Lib.hid (SeqAt.keeps HC1.out HKE0.out)
  have HK := Lib.hid (HK.out.trans HKE0.out)
  clear HKE0
  go_wp2_with fail
  go_loopw [64] (fun i wr => ∃ k : Nat, k ≤ 13 ∧ i = .int .i64 k ∧ Hid (Keeps wl wr)) (fun i _ => 13 - (intOf i).toNat)
  case atStart => exact ⟨0, by omega, rfl, keeps_refl _⟩
  case round =>
    obtain ⟨k, hk, rfl, hK⟩ := hrel
    obtain ⟨wr0, rfl⟩ : ∃ wy : World, wy = wr := ⟨_, rfl⟩
    by_cases hlt : k < 13
    · have hlt64 : (k : Int) < 13 := by omega
      have hlt65 : decide ((k : Int) < 13) = true := decide_eq_true (by omega)
      have hk0 : (0 : Int) ≤ (k : Int) := by omega
      obtain ⟨b9, o9, pc, qc, e9, _, c0, c1, c2, c3, hsc, hqc⟩ := ent_cell (EntsAt.keeps HL.out hK.out) (i := k) hlt
      injection e9 with e9
      injection e9 with e91 e92 _
      subst e91 e92
      simp only [Nat.zero_add] at c0 c1 c2 c3
      have HNO : Hid (mayL [eAt L13 k] = false) := by
        show _ = _
        rw [may_single]
        have h := List.all_eq_true.1 L13_no _ (eAt_mem (l := L13) hlt)
        simpa using h
      generalize eAt L13 k = X at *
      obtain ⟨xn, xd, xz, xc⟩ := X
      dsimp only at c0 c1 c2 c3 hsc hqc
      have HSC := Lib.hid hsc
      have HQC : Hid (∀ a n c, Value.slice pc xc.length qc = .slice a n c → n ≤ c) := fun a n c e => by cases e; exact hqc
      clear hsc hqc
      go_upto_region 13 with (refine wpList_store_row rfl 33 (.tmp 6) (.tmp 67) rfl wr0.heap.size #[.string xn, .bool xd, .int .i64 xz, .slice pc xc.length qc] rfl rfl 33 _ (heap_alloc_last wr0 _) (by kernel_rfl) rfl (entA_one _ _ _ _ _ _) ?_; rw [World.setRow_alloc_new])
      simp only [Act.put]
      refine (fun (h : ∀ wx : World, BlkAt wx wr0.heap.size 33 #[.string xn, .bool xd, .int .i64 xz, .slice pc xc.length qc] → Keeps wr0 wx → Code.wp _ _ _ _ wx) => h _ (by exact BlkAt.new _ _ _) (by exact kal _ _)) ?_
      intro wx hb hk9
      have HKx := Lib.hid (hK.out.trans hk9)
      have HSC := Lib.hid (SeqAt.keeps HSC.out hk9)
      clear c0 c1 c2 c3 hk9
      generalize wr0.heap.size = GX at *
      have d0 : wx.cell? ⟨GX, 0, none⟩ = some (.string xn) := hb.cell rfl
      have d1 : wx.cell? ⟨GX, 1, none⟩ = some (.bool xd) := hb.cell rfl
      have d2 : wx.cell? ⟨GX, 2, none⟩ = some (.int .i64 xz) := hb.cell rfl
      have d3 : wx.cell? ⟨GX, 3, none⟩ = some (.slice pc xc.length qc) := hb.cell rfl
      clear hb
      go_wp2_with fail
      clear d0 d1 d2 d3
      refine Calls.mono (refused_any _ [⟨xn, xd, xz, xc⟩] _ (ents_lone ⟨xn, xd, xz, xc⟩ _ HSC.out HQC.out rfl) HNO.out) ?_
      rintro e wy ⟨rfl, hk9⟩
      have HKy := Lib.hid (HKx.out.trans ((kal _ _).trans hk9))
      clear hk9
      go_wp2_with fail
      refine ⟨?_, by simp [intOf]; omega⟩
      first | exact ⟨k + 1, by omega, by go_num, HKy⟩ | ((repeat apply Exists.intro); exact ⟨⟨k + 1, by omega, by go_num, HKy⟩, rfl⟩)
    · obtain rfl : k = 13 := by omega
      obtain ⟨wh, rfl⟩ : ∃ wy : World, wy = wr0 := ⟨_, rfl⟩
      have HB1 := Lib.hid (HB1.out.keeps hK.out)
      have HC1 := Lib.hid (SeqAt.keeps HC1.out hK.out)
      have HK := Lib.hid (HK.out.trans hK.out)
      clear hK HL hlt
      have K10 : Hid (wh.cell? ⟨G1, 0, none⟩ = some (.string ⟨#[100]⟩)) := HB1.out.cell rfl
      have K11 : Hid (wh.cell? ⟨G1, 1, none⟩ = some (.bool true)) := HB1.out.cell rfl
      have K12 : Hid (wh.cell? ⟨G1, 2, none⟩ = some (.int .i64 0)) := HB1.out.cell rfl
      have K13 : Hid (wh.cell? ⟨G1, 3, none⟩ = some (.slice (some ⟨C1, 0, none⟩) 1 1)) := HB1.out.cell rfl
      go_upto_region 16 with fail
      refine wp_region_lineG [73, 74, 75, 76, 77, 78, 79, 80, 81, 82] [[], [], [], [], [], [], [5], [0, 1, 2, 3, 4, 6], [7], []] [[], [], [], [], [], [], [], [], [], []] [] (nnmB G1 C1) (by kernel_rfl) (by kernel_rfl) (by kernel_rfl) (by kernel_rfl) (by kernel_rfl) (by kernel_rfl) ?_ ?_ ?_
      · refine ⟨?_, ?_, ?_, ?_, ?_, ?_, ?_, ?_, ?_, ?_, trivial⟩
        · exact fun g b h => by (cases h)
        · exact fun g b h => by (cases h)
        · exact fun g b h => by (cases h)
        · exact fun g b h => by (cases h)
        · exact fun g b h => by (cases h)
        · exact fun g b h => by (cases h)
        · exact fun g b h => by (cases h)
        · exact fun g b h => by (cases h)
        · exact fun g b h => by (cases h)
        · exact fun g b h => by (cases h)
      · refine ⟨?_, ?_, ?_, ?_, ?_, ?_, ?_, ?_, ?_, ?_, trivial⟩
        · intro _ a w1 vs hk ho hn K hK
          have e1 : a.tmps[1]? = some (.pointer (some ⟨G1, 0, none⟩)) := ho 1 rfl
          clear hn ho
          have c0 := keeps_cell hk K10.out
          have c1 := keeps_cell hk K11.out
          have c2 := keeps_cell hk K12.out
          have c3 := keeps_cell hk K13.out
          go_simp
          exact hK _ _ hk (fun _ _ _ _ _ _ h => h) rfl
        · intro _ a w1 vs hk ho hn K hK
          clear hn ho
          go_simp
          refine Calls.mono (file_at ⟨#[97]⟩ 1 1 (by decide) _) ?_
          rintro e w' ⟨p, q, rfl, hs, hq, KK⟩
          go_simp
          exact hK _ _ (hk.trans KK) (fun j u _ _ _ _ h => nnmB_kp j u _ _ KK h) ⟨p, q, rfl, hq, hs⟩
        · intro _ a w1 vs hk ho hn K hK
          clear hn ho
          go_simp
          refine Calls.mono (file_at ⟨#[97]⟩ 1024 1 (by decide) _) ?_
          rintro e w' ⟨p, q, rfl, hs, hq, KK⟩
          go_simp
          exact hK _ _ (hk.trans KK) (fun j u _ _ _ _ h => nnmB_kp j u _ _ KK h) ⟨p, q, rfl, hq, hs⟩
        · intro _ a w1 vs hk ho hn K hK
          clear hn ho
          go_simp
          refine Calls.mono (file_at ⟨#[97]⟩ 16384 16 (by decide) _) ?_
          rintro e w' ⟨p, q, rfl, hs, hq, KK⟩
          go_simp
          exact hK _ _ (hk.trans KK) (fun j u _ _ _ _ h => nnmB_kp j u _ _ KK h) ⟨p, q, rfl, hq, hs⟩
        · intro _ a w1 vs hk ho hn K hK
          clear hn ho
          go_simp
          refine Calls.mono (file_at ⟨#[97]⟩ 2 2 (by decide) _) ?_
          rintro e w' ⟨p, q, rfl, hs, hq, KK⟩
          go_simp
          exact hK _ _ (hk.trans KK) (fun j u _ _ _ _ h => nnmB_kp j u _ _ KK h) ⟨p, q, rfl, hq, hs⟩
        · intro _ a w1 vs hk ho hn K hK
          clear hn ho
          go_simp
          refine Calls.mono (HM32.out _) ?_
          rintro e w' ⟨rfl, KK⟩
          go_simp
          exact hK _ _ (hk.trans KK) (fun j u _ _ _ _ h => nnmB_kp j u _ _ KK h) rfl
        · intro _ a w1 vs hk ho hn K hK
          obtain ⟨e78, g78⟩ : a.tmps[78]? = some (vs 5) ∧ vs 5 = .string t32 := hn 5 (by decide)
          rw [g78] at e78
          clear g78
          clear hn ho
          go_simp
          refine Calls.mono (file_nil t32 _) ?_
          rintro e w' ⟨rfl, KK⟩
          go_simp
          exact hK _ _ (hk.trans KK) (fun j u _ _ _ _ h => nnmB_kp j u _ _ KK h) rfl
        · intro _ a w1 vs hk ho hn K hK
          obtain ⟨e73, g73⟩ : a.tmps[73]? = some (vs 0) ∧ vs 0 = .agg #[.string ⟨#[100]⟩, .bool true, .int .i64 0, .slice (some ⟨C1, 0, none⟩) 1 1] := hn 0 (by decide)
          rw [g73] at e73
          clear g73
          obtain ⟨e74, g74⟩ : a.tmps[74]? = some (vs 1) ∧ ∃ p q, (vs 1) = .agg #[.string ⟨#[97]⟩, .bool false, .int .i64 1, .slice p 1 q] ∧ 1 ≤ q ∧ SeqAt IsText w1.heap (.slice p 1 q) (List.replicate 1 chC) := hn 1 (by decide)
          obtain ⟨e75, g75⟩ : a.tmps[75]? = some (vs 2) ∧ ∃ p q, (vs 2) = .agg #[.string ⟨#[97]⟩, .bool false, .int .i64 1024, .slice p 1 q] ∧ 1 ≤ q ∧ SeqAt IsText w1.heap (.slice p 1 q) (List.replicate 1 chC) := hn 2 (by decide)
          obtain ⟨e76, g76⟩ : a.tmps[76]? = some (vs 3) ∧ ∃ p q, (vs 3) = .agg #[.string ⟨#[97]⟩, .bool false, .int .i64 16384, .slice p 16 q] ∧ 16 ≤ q ∧ SeqAt IsText w1.heap (.slice p 16 q) (List.replicate 16 chC) := hn 3 (by decide)
          obtain ⟨e77, g77⟩ : a.tmps[77]? = some (vs 4) ∧ ∃ p q, (vs 4) = .agg #[.string ⟨#[97]⟩, .bool false, .int .i64 2, .slice p 2 q] ∧ 2 ≤ q ∧ SeqAt IsText w1.heap (.slice p 2 q) (List.replicate 2 chC) := hn 4 (by decide)
          obtain ⟨e79, g79⟩ : a.tmps[79]? = some (vs 6) ∧ vs 6 = .agg #[.string t32, .bool false, .int .i64 0, .slice none 0 0] := hn 6 (by decide)
          rw [g79] at e79
          clear g79
          clear hn ho
          obtain ⟨p74, q74, r74, hq74, hs74⟩ := g74
          rw [r74] at e74
          obtain ⟨p75, q75, r75, hq75, hs75⟩ := g75
          rw [r75] at e75
          obtain ⟨p76, q76, r76, hq76, hs76⟩ := g76
          rw [r76] at e76
          obtain ⟨p77, q77, r77, hq77, hs77⟩ := g77
          rw [r77] at e77
          go_simp
          exact hK _ _ (hk.trans (kal _ _)) (fun j u _ _ _ _ h => nnmB_kp j u _ _ (kal _ _) h) ⟨_, rfl, ents_litL w1 [_, _, _, _, _, _] (l := L6) rfl (EntsL.cons (isEnt_lit (SeqAt.keeps HC1.out hk) (Nat.le_refl _)) (EntsL.cons (isEnt_lit hs74 hq74) (EntsL.cons (isEnt_lit hs75 hq75) (EntsL.cons (isEnt_lit hs76 hq76) (EntsL.cons (isEnt_lit hs77 hq77) (EntsL.cons (isEnt_nil) (EntsL.nil))))))) rfl (by decide) rfl⟩
        · intro _ a w1 vs hk ho hn K hK
          obtain ⟨e80, g80⟩ : a.tmps[80]? = some (vs 7) ∧ ∃ g, (vs 7) = .slice (some ⟨g, 0, none⟩) 6 6 ∧ EntsAt w1.heap (vs 7) L6 := hn 7 (by decide)
          clear hn ho
          obtain ⟨g, r, _⟩ := g80
          rw [r] at e80
          go_simp
          exact hK _ _ hk (fun _ _ _ _ _ _ h => h) rfl
        · intro _ a w1 vs hk ho hn K hK
          clear hn ho
          go_simp
          exact hK _ _ hk (fun _ _ _ _ _ _ h => h) rfl
      intro vs wE hI hG
      have h80 : ∃ g, (vs 7) = .slice (some ⟨g, 0, none⟩) 6 6 ∧ EntsAt wE.heap (vs 7) L6 := hG 7 (by decide) (by decide)
      have eL8 : vs 8 = .int .i64 6 := hG 8 (by decide) (by decide)
      have eL9 : vs 9 = .int .i64 0 := hG 9 (by decide) (by decide)
      have HKE := Lib.hid hI
      clear hG hI
      simp only [setAll, Nat.zero_add, Nat.reduceAdd, List.setIfInBounds_toArray, List.set_cons_zero, List.set_cons_succ, eL8, eL9]
      clear eL8 eL9
      generalize vs 0 = y0 at *
      generalize vs 1 = y1 at *
      generalize vs 2 = y2 at *
      generalize vs 3 = y3 at *
      generalize vs 4 = y4 at *
      generalize vs 5 = y5 at *
      generalize vs 6 = y6 at *
      generalize vs 7 = y7 at *
      obtain ⟨g6, e6, hl6⟩ := h80
      rw [e6] at hl6 ⊢
      have HL := Lib.hid hl6
      have HKE1 := Lib.hid HKE.out
      clear hl6 e6 HKE
      obtain ⟨wm, rfl⟩ : ∃ wy : World, wy = wE := ⟨_, rfl⟩
      clear K10 K11 K12 K13 HM32 HC1 HB1
      have HK := Lib.hid (HK.out.trans HKE1.out)
      clear HKE1
      go_wp2_with fail
      go_loopw [82] (fun i wr => ∃ k : Nat, k ≤ 6 ∧ i = .int .i64 k ∧ Hid (Keeps wm wr)) (fun i _ => 6 - (intOf i).toNat)
      case atStart => exact ⟨0, by omega, rfl, keeps_refl _⟩
      case round =>
        obtain ⟨k, hk, rfl, hK⟩ := hrel
        obtain ⟨wr0, rfl⟩ : ∃ wy : World, wy = wr := ⟨_, rfl⟩
        by_cases hlt : k < 6
        · have hlt64 : (k : Int) < 6 := by omega
          have hlt65 : decide ((k : Int) < 6) = true := decide_eq_true (by omega)
          have hk0 : (0 : Int) ≤ (k : Int) := by omega
          obtain ⟨b9, o9, pc, qc, e9, _, c0, c1, c2, c3, hsc, hqc⟩ := ent_cell (EntsAt.keeps HL.out hK.out) (i := k) hlt
          injection e9 with e9
          injection e9 with e91 e92 _
          subst e91 e92
          simp only [Nat.zero_add] at c0 c1 c2 c3
          have HYS : Hid (mayE (eAt L6 k) = true ∧ 14 + (eAt L6 k).n.size + 32 * (eAt L6 k).c.length ≤ 16384) := by
            have h := List.all_eq_true.1 L6_yes _ (eAt_mem (l := L6) hlt)
            rw [Bool.and_eq_true, decide_eq_true_eq] at h
            exact h
          generalize eAt L6 k = X at *
          obtain ⟨xn, xd, xz, xc⟩ := X
          dsimp only at c0 c1 c2 c3 hsc hqc
          have HSC := Lib.hid hsc
          have HQC : Hid (∀ a n c, Value.slice pc xc.length qc = .slice a n c → n ≤ c) := fun a n c e => by cases e; exact hqc
          clear hsc hqc
          obtain ⟨XE, hXE⟩ : ∃ XE : EntR, XE = ⟨xn, xd, xz, xc⟩ := ⟨_, rfl⟩
          have HME : Hid (makeE [⟨xn, xd, xz, xc⟩] = (strB (makeB [⟨xn, xd, xz, xc⟩]), 0)) := makeE_one HYS.out.1 HYS.out.2
          have HMR : Hid (readP (strB (makeB [⟨xn, xd, xz, xc⟩])).data.toList = some [⟨xn, xd, xz, xc⟩]) := by
            show _ = _
            refine readP_some.2 ⟨by rw [may_single]; exact HYS.out.1, ?_, rfl⟩
            rw [data_size, strB_size, makeB_one HYS.out.1]; exact HYS.out.2
          have HMS : Hid ((strB (makeB [⟨xn, xd, xz, xc⟩])).size ≤ 1000000) := by show _ ≤ _; rw [strB_size, makeB_one HYS.out.1]; have := HYS.out.2; omega
          clear hXE
          go_upto_region 19 with (refine wpList_store_row rfl 33 (.tmp 8) (.tmp 85) rfl wr0.heap.size #[.string xn, .bool xd, .int .i64 xz, .slice pc xc.length qc] rfl rfl 33 _ (heap_alloc_last wr0 _) (by kernel_rfl) rfl (entA_one _ _ _ _ _ _) ?_; rw [World.setRow_alloc_new])
          simp only [Act.put]
          refine (fun (h : ∀ wx : World, BlkAt wx wr0.heap.size 33 #[.string xn, .bool xd, .int .i64 xz, .slice pc xc.length qc] → Keeps wr0 wx → Code.wp _ _ _ _ wx) => h _ (by exact BlkAt.new _ _ _) (by exact kal _ _)) ?_
          intro wx hb hk9
          have HKx := Lib.hid (hK.out.trans hk9)
          have HSC := Lib.hid (SeqAt.keeps HSC.out hk9)
          have HBX := Lib.hid hb
          clear c0 c1 c2 c3 hk9 hb
          generalize wr0.heap.size = GX at *
          have d0 : wx.cell? ⟨GX, 0, none⟩ = some (.string xn) := HBX.out.cell rfl
          have d1 : wx.cell? ⟨GX, 1, none⟩ = some (.bool xd) := HBX.out.cell rfl
          have d2 : wx.cell? ⟨GX, 2, none⟩ = some (.int .i64 xz) := HBX.out.cell rfl
          have d3 : wx.cell? ⟨GX, 3, none⟩ = some (.slice pc xc.length qc) := HBX.out.cell rfl
          go_wp2_with fail
          clear d0 d1 d2 d3
          refine Calls.mono (nmake_any _ [⟨xn, xd, xz, xc⟩] _ (ents_lone ⟨xn, xd, xz, xc⟩ _ HSC.out HQC.out rfl)) ?_
          rintro e wy ⟨rfl, hk9⟩
          rw [HME.out]
          dsimp only
          have HKx := Lib.hid (HKx.out.trans ((kal _ _).trans hk9))
          have HSC := Lib.hid (SeqAt.keeps HSC.out ((kal _ _).trans hk9))
          have HBX := Lib.hid (HBX.out.keeps ((kal _ _).trans hk9))
          clear hk9 HME
          generalize strB (makeB [⟨xn, xd, xz, xc⟩]) = SX at *
          go_wp2_with fail
          refine Calls.mono (nread_yes SX [⟨xn, xd, xz, xc⟩] HMR.out HMS.out (by simp) _) ?_
          rintro e wz ⟨v9, rfl, h9, hk9⟩
          obtain ⟨p9, q9, rfl⟩ := rec_shape h9
          have HE9 := Lib.hid h9
          have HKx := Lib.hid (HKx.out.trans hk9)
          have HSC := Lib.hid (SeqAt.keeps HSC.out hk9)
          have HBX := Lib.hid (HBX.out.keeps hk9)
          clear hk9 h9 HMR HMS
          have d0 : wz.cell? ⟨GX, 0, none⟩ = some (.string xn) := HBX.out.cell rfl
          have d1 : wz.cell? ⟨GX, 1, none⟩ = some (.bool xd) := HBX.out.cell rfl
          have d2 : wz.cell? ⟨GX, 2, none⟩ = some (.int .i64 xz) := HBX.out.cell rfl
          have d3 : wz.cell? ⟨GX, 3, none⟩ = some (.slice pc xc.length qc) := HBX.out.cell rfl
          go_wp2_with fail
          clear d0 d1 d2 d3
          refine Calls.mono (nsame_any _ _ [⟨xn, xd, xz, xc⟩] [⟨xn, xd, xz, xc⟩] _ (EntsAt.keeps HE9.out (kal _ _)) (ents_lone ⟨xn, xd, xz, xc⟩ _ HSC.out HQC.out rfl)) ?_
          rintro e wv ⟨rfl, hk9⟩
          have HSM : Hid (sameE [⟨xn, xd, xz, xc⟩] [⟨xn, xd, xz, xc⟩] = true) := decide_eq_true rfl
          rw [HSM.out]
          have HKy := Lib.hid (HKx.out.trans ((kal _ _).trans hk9))
          clear hk9
          go_wp2_with fail
          refine ⟨?_, by simp [intOf]; omega⟩
          first | exact ⟨k + 1, by omega, by go_num, HKy⟩ | ((repeat apply Exists.intro); exact ⟨⟨k + 1, by omega, by go_num, HKy⟩, rfl⟩)
        · obtain rfl : k = 6 := by omega
          obtain ⟨wi, rfl⟩ : ∃ wy : World, wy = wr0 := ⟨_, rfl⟩
          have HK := Lib.hid (HK.out.trans hK.out)
          clear hK HL hlt
          go_wp2_with fail
          go_loopw [13, 14] (fun v i wr => ∃ k : Nat, k ≤ 257 ∧ i = .int .i64 k ∧ Hid (OwnRec w.heap.size 33 4 (IsEntT (fun _ => True) wr.heap) wr v (allF k)) ∧ Hid (Keeps w wr)) (fun _ i _ => 257 - (intOf i).toNat)
          case atStart => exact ⟨0, by omega, rfl, by exact OwnRec.nil _ _ _ _ _, HK.out⟩
          case round =>
            obtain ⟨k, hk, rfl, hR, hKr⟩ := hrel
            obtain ⟨wr0, rfl⟩ : ∃ wy : World, wy = wr := ⟨_, rfl⟩
            clear HK
            by_cases hlt : k < 257
            · have hlt64 : (k : Int) < 257 := by omega
              have hlt65 : decide ((k : Int) < 257) = true := decide_eq_true (by omega)
              have hk0 : (0 : Int) ≤ (k : Int) := by omega
              have HMS := Lib.hid (allF_succ k)
              obtain ⟨us, hu1, hu2, hu3⟩ := hR.out
              have HU := Lib.hid hu1
              have HL2 := Lib.hid hu2
              have HU3 := Lib.hid hu3
              have HL3 : Hid (us.length ≤ 257) := by show _ ≤ _; rw [hu2, allF_len]; omega
              clear hu1 hu2 hu3 hR
              obtain ⟨pv, qv, rfl⟩ := own_slice9 HU.out
              have e1 : (((UInt8.ofNat (40 + k / 200)).toNat : Nat) : Int) = 40 + (k : Int) / 200 := by rw [UInt8.toNat_ofNat']; omega
              have e2 : (((UInt8.ofNat (50 + k / 20 % 10)).toNat : Nat) : Int) = 50 + (k : Int) / 20 % 10 := by rw [UInt8.toNat_ofNat']; omega
              have e3 : (((UInt8.ofNat (60 + k % 20)).toNat : Nat) : Int) = 60 + (k : Int) % 20 := by rw [UInt8.toNat_ofNat']; omega
              have hrow := rowAt_lit wr0 [UInt8.ofNat (40 + k / 200), UInt8.ofNat (50 + k / 20 % 10), UInt8.ofNat (60 + k % 20)] 3 3 rfl (by decide)
              have hcs : bytesV [UInt8.ofNat (40 + k / 200), UInt8.ofNat (50 + k / 20 % 10), UInt8.ofNat (60 + k % 20)] = [.int .u8 (40 + (k : Int) / 200), .int .u8 (50 + (k : Int) / 20 % 10), .int .u8 (60 + (k : Int) % 20)] := by
                show [Value.int .u8 _, Value.int .u8 _, Value.int .u8 _] = _
                rw [e1, e2, e3]
              rw [hcs] at hrow
              have hcv := conv_row (P := Tryd.prog) (src := 45) (dst := 9) (e := 5) Tryd.underlying45 (by kernel_rfl) Tryd.underlying9 hrow
              have HFM : Hid (allE k = ⟨strB [UInt8.ofNat (40 + k / 200), UInt8.ofNat (50 + k / 20 % 10), UInt8.ofNat (60 + k % 20)], false, 0, []⟩) := rfl
              have hszk := hKr.out.size
              clear e1 e2 e3 hrow hcs
              generalize strB [UInt8.ofNat (40 + k / 200), UInt8.ofNat (50 + k / 20 % 10), UInt8.ofNat (60 + k % 20)] = X at *
              go_wp2_with fail
              refine Calls.mono (file_nil X _) ?_
              rintro e w8 ⟨rfl, hk8⟩
              clear hcv
              have HK8 : Hid (Keeps wr0 w8) := (kal _ _).trans hk8
              have HU8 := Lib.hid (owns_chgK (T := fun _ => False) HU.out (Kept.any HK8.out) fun _ _ x => x)
              have hsz8 : w.heap.size ≤ w8.heap.size := Nat.le_trans hszk HK8.out.size
              clear hk8
              go_wp2_with (at_builtin; refine wp_appr1 elEntG rfl (.tmp 115) (.tmp 132) rfl w.heap.size (.slice pv us.length qv) us.length us.flatten rfl (HU8.out.alloc _) w8.heap.size [.string X, .bool false, .int .i64 0, .slice none 0 0] rfl rfl (blk_cells (heap_alloc_new _ _)) (fun y hy => by simp at hy; rcases hy with rfl | rfl | rfl | rfl <;> rfl) (by have := HL3.out; omega) (by simp; omega) ?_; intro v' w9 hown hchg; have HC9 : Hid (Chg (fun q => (Value.slice pv us.length qv).ownBlock = some q) wr0 w9) := (Kept.any (HK8.out.trans (kal _ _))).trans hchg; have HO9 : Hid (OwnRec w.heap.size 33 4 (IsEntT (fun _ => True) w9.heap) w9 v' (allF k ++ [⟨X, false, 0, []⟩])) := OwnRec.push (R := IsEntT (fun _ => True) wr0.heap) HL2.out HU3.out hown (fun a b _ x => IsEntT.chg x HC9.out fun b _ _ ht => own_typeT HU.out ht (by decide)) rfl ⟨_, rfl, SeqIn.nil _ _ _ _, fun _ _ _ e => by cases e; exact Nat.le_refl _⟩; have HK9 : Hid (Keeps w w9) := hKr.out.then (chg_kept (B := w.heap.size) HC9.out (fun q _ e => (own_blockK HU.out q e).1) hszk) (Nat.le_refl _); clear hown hchg)
              refine ⟨?_, by simp [intOf]; omega⟩
              first | exact ⟨k + 1, by omega, by go_num, by rw [HMS.out, HFM.out]; exact HO9, HK9⟩ | ((repeat apply Exists.intro); exact ⟨⟨k + 1, by omega, by go_num, by rw [HMS.out, HFM.out]; exact HO9, HK9⟩, rfl⟩)
            · obtain rfl : k = 257 := by omega
              obtain ⟨us, hu1, hu2, hu3⟩ := hR.out
              obtain ⟨pv, qv, rfl, hqv⟩ := own_sliceC hu1
              rw [allF_len] at hu2
              have HEA : Hid (EntsAt wr0.heap (.slice pv us.length qv) (allF 257)) := (OwnRec.seq hR.out (by rw [allF_len]; decide)).at_.imp (fun _ _ _ e => e) fun _ _ _ x => IsEntT.at_ x
              rw [hu2] at HEA hqv ⊢
              have HE6 : Hid (EntsAt wr0.heap (.slice pv 256 qv) (allF 256)) := by
                have h := RecAt.take HEA.out 256 (by rw [allF_len]; decide) qv
                rw [allF_take (by decide)] at h
                exact h
              have f1 : (256 : Int) ≤ (qv : Int) := by omega
              have f2 : 256 ≤ qv := by omega
              clear hu1 hu2 hu3 hR hlt
              obtain ⟨hm1, hm2⟩ := makeE_yes allF_may (by rw [allF_len]; exact allF_lenE)
              have HM1 := Lib.hid hm1
              clear hm1 hm2
              have HKr := Lib.hid hKr.out
              clear hKr
              go_wp2_with fail
              refine Calls.mono (nmake_any _ (allF 256) _ HE6.out) ?_
              rintro e wa ⟨rfl, hk9⟩
              rw [HM1.out]
              dsimp only
              have HEA := Lib.hid (EntsAt.keeps HEA.out hk9)
              have HK := Lib.hid (HKr.out.trans hk9)
              clear hk9 HKr HE6 HM1
              generalize strB (makeB (allF 256)) = S1 at *
              go_wp2_with fail
              refine Calls.mono (nmake_any _ (allF 257) _ HEA.out) ?_
              rintro e wb ⟨rfl, hk9⟩
              rw [makeE_no allF_no]
              dsimp only
              have HK := Lib.hid (HK.out.trans hk9)
              clear hk9 HEA f1 f2
              go_wp2_with fail
              refine Calls.mono (file_at a15 16384 510 (by decide) _) ?_
              rintro e wc1 ⟨pa, qa, rfl, hsa, hqa, hk9⟩
              have HK := Lib.hid (HK.out.trans hk9)
              have HSA := Lib.hid hsa
              have HQA := Lib.hid hqa
              clear hk9 hsa hqa
              go_wp2_with fail
              refine Calls.mono (file_nil ⟨#[98]⟩ _) ?_
              rintro e wc2 ⟨rfl, hk9⟩
              have HK := Lib.hid (HK.out.trans hk9)
              have HSA := Lib.hid (SeqAt.keeps HSA.out hk9)
              clear hk9
              have HEL := Lib.hid (ents_litL wc2 [[.string a15, .bool false, .int .i64 16384, .slice pa 510 qa], [.string ⟨#[98]⟩, .bool false, .int .i64 0, .slice none 0 0]] (l := LA) (cs := #[.string a15, .bool false, .int .i64 16384, .slice pa 510 qa, .string ⟨#[98]⟩, .bool false, .int .i64 0, .slice none 0 0]) (n := 2) (c := 2) rfl (EntsL.cons (isEnt_lit HSA.out HQA.out) (EntsL.cons isEnt_nil EntsL.nil)) rfl (by decide) rfl)
              go_wp2_with fail
              refine Calls.mono (nmake_any _ LA _ HEL.out) ?_
              rintro e wc3 ⟨rfl, hk9⟩
              rw [(makeE_yes LA_may (by rw [LA_len]; decide)).1]
              dsimp only
              have HK := Lib.hid (HK.out.trans ((kal _ _).trans hk9))
              clear hk9 HEL HSA HQA
              have hzLA : (strB (makeB LA)).size = 16358 := by rw [(makeE_yes LA_may (by rw [LA_len]; decide)).2, LA_len]
              generalize strB (makeB LA) = S2 at *
              go_wp2_with fail
              refine Calls.mono (file_at a15 16384 510 (by decide) _) ?_
              rintro e wc1 ⟨pa, qa, rfl, hsa, hqa, hk9⟩
              have HK := Lib.hid (HK.out.trans hk9)
              have HSA := Lib.hid hsa
              have HQA := Lib.hid hqa
              clear hk9 hsa hqa
              go_wp2_with fail
              refine Calls.mono (file_nil ⟨#[98, 98]⟩ _) ?_
              rintro e wc2 ⟨rfl, hk9⟩
              have HK := Lib.hid (HK.out.trans hk9)
              have HSA := Lib.hid (SeqAt.keeps HSA.out hk9)
              clear hk9
              have HEL := Lib.hid (ents_litL wc2 [[.string a15, .bool false, .int .i64 16384, .slice pa 510 qa], [.string ⟨#[98, 98]⟩, .bool false, .int .i64 0, .slice none 0 0]] (l := LB) (cs := #[.string a15, .bool false, .int .i64 16384, .slice pa 510 qa, .string ⟨#[98, 98]⟩, .bool false, .int .i64 0, .slice none 0 0]) (n := 2) (c := 2) rfl (EntsL.cons (isEnt_lit HSA.out HQA.out) (EntsL.cons isEnt_nil EntsL.nil)) rfl (by decide) rfl)
              go_wp2_with fail
              refine Calls.mono (nmake_any _ LB _ HEL.out) ?_
              rintro e wc3 ⟨rfl, hk9⟩
              rw [(makeE_yes LB_may (by rw [LB_len]; decide)).1]
              dsimp only
              have HK := Lib.hid (HK.out.trans ((kal _ _).trans hk9))
              clear hk9 HEL HSA HQA
              have hzLB : (strB (makeB LB)).size = 16359 := by rw [(makeE_yes LB_may (by rw [LB_len]; decide)).2, LB_len]
              generalize strB (makeB LB) = S3 at *
              go_wp2_with fail
              refine Calls.mono (edge_any _) ?_
              rintro e wd1 ⟨rfl, hk9⟩
              have HK := Lib.hid (HK.out.trans hk9)
              clear hk9
              go_wp2_with fail
              refine Calls.mono (wrong_any _) ?_
              rintro e wd2 ⟨rfl, hk9⟩
              have HK := Lib.hid (HK.out.trans hk9)
              clear hk9
              go_wp2_with fail
              go_ret
              exact ⟨rfl, HK.out⟩
end Go.Proofs.YtdpfanifagfciaaDoor
