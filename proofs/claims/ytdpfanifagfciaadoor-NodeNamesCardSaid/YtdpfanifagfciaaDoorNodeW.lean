/- The walks of law19.wrong and of law19.edge. Printed by gennedge.py. -/
import Derived.Test.YtdpfanifagfciaaDoorNodeN
import Derived.Test.YtdpfanifagfciaaDoorNodeF
import Derived.Test.YtdpfanifagfciaaDoorLawPUp
namespace Go.Proofs.YtdpfanifagfciaaDoor
open Go.RowKit
attribute [local go_sem ↓] Go.wp_at_zero Go.wp_at_succ
def wrongZ : List ByteArray := [⟨#[]⟩, ⟨#[100, 105, 114, 49]⟩, ⟨#[100, 105, 114, 49, 0]⟩, ⟨#[100, 105, 114, 50, 0, 0]⟩, ⟨#[100, 105, 114, 49, 0, 0, 97]⟩, ⟨#[100, 105, 114, 49, 0, 1]⟩, ⟨#[100, 105, 114, 49, 0, 1, 0, 1, 97, 0, 0, 0, 0, 0]⟩, ⟨#[100, 105, 114, 49, 0, 1, 2, 1, 97, 0, 0, 0, 0, 0, 0]⟩, ⟨#[100, 105, 114, 49, 0, 1, 0, 0, 0, 0, 0, 0, 0, 0]⟩, ⟨#[100, 105, 114, 49, 0, 1, 0, 1, 97, 0, 0, 0, 0, 0, 1]⟩, ⟨#[100, 105, 114, 49, 0, 1, 0, 255, 97, 0, 0, 0, 0, 0, 0]⟩, ⟨#[100, 105, 114, 49, 0, 1, 0, 1, 97, 1, 0, 0, 0, 0, 0]⟩, ⟨#[100, 105, 114, 49, 255, 255]⟩, ⟨#[100, 105, 114, 49, 0, 1, 0, 1, 97, 0, 0, 0, 0, 255, 255]⟩]
theorem wrongZ_no : (wrongZ.all fun x => (readP x.data.toList).isNone) = true := by decide +kernel
theorem wrongZ_none {x : ByteArray} (h : x ∈ wrongZ) : readP x.data.toList = none := by
  have := List.all_eq_true.1 wrongZ_no x h
  cases hr : readP x.data.toList with
  | none => rfl
  | some l => rw [hr] at this; cases this
/-- Bytes that are refused. -/
theorem nread_no (x : ByteArray) (h : readP x.data.toList = none) (hs : x.size ≤ 1000000) (w : World) : Calls Tryd.prog 15 #[.string x] w fun e w' => e = .returned (.tuple #[.slice none 0 0, .int .i64 4]) ∧ Keeps w w' :=
  (nread_any x w hs).mono fun e w' ⟨hk, hr⟩ => by
    rcases hr with ⟨_, e1⟩ | ⟨l, v, e1, _⟩
    · exact ⟨e1, hk⟩
    · rw [h] at e1; cases e1
/-- Bytes of a directory. -/
theorem nread_yes (x : ByteArray) (l : List EntR) (h : readP x.data.toList = some l) (hs : x.size ≤ 1000000) (hl : l.length ≤ 1000000) (w : World) : Calls Tryd.prog 15 #[.string x] w fun e w' => ∃ v, e = .returned (.tuple #[v, .int .i64 0]) ∧ EntsAt w'.heap v l ∧ Keeps w w' :=
  (nread_any x w hs).mono fun e w' ⟨hk, hr⟩ => by
    rcases hr with ⟨e1, _⟩ | ⟨l2, v, e1, e2, h2⟩
    · rw [h] at e1; cases e1
    · rw [h] at e1
      obtain rfl := Option.some.inj e1
      exact ⟨v, e2, (OwnRec.seq h2 (by omega)).at_.imp (fun _ _ _ e => e) (fun _ _ _ x => IsEntT.at_ x), hk⟩
set_option maxRecDepth 100000 in
set_option maxHeartbeats 4000000 in
theorem wrong_any (w : World) : Calls Tryd.prog 47 #[] w fun e w' => e = .returned (.bool true) ∧ Keeps w w' := by
  have HB := Lib.hid (textsAt_lit w wrongZ 14 14 rfl (by decide))
  have HK0 : Hid (Keeps w (w.alloc (.cells ⟨wrongZ.map (Value.string ·)⟩ 9))) := kal _ _
  have HSZ : Hid (∀ x ∈ wrongZ, x.size ≤ 1000000) := by
    show ∀ x ∈ wrongZ, x.size ≤ 1000000
    decide +kernel
  go_enter Tryd.func47, Tryd.ntmps47
  go_wp2_with fail
  generalize hw0 : w.alloc (.cells #[.string ⟨#[]⟩, .string ⟨#[100, 105, 114, 49]⟩, .string ⟨#[100, 105, 114, 49, 0]⟩, .string ⟨#[100, 105, 114, 50, 0, 0]⟩, .string ⟨#[100, 105, 114, 49, 0, 0, 97]⟩, .string ⟨#[100, 105, 114, 49, 0, 1]⟩, .string ⟨#[100, 105, 114, 49, 0, 1, 0, 1, 97, 0, 0, 0, 0, 0]⟩, .string ⟨#[100, 105, 114, 49, 0, 1, 2, 1, 97, 0, 0, 0, 0, 0, 0]⟩, .string ⟨#[100, 105, 114, 49, 0, 1, 0, 0, 0, 0, 0, 0, 0, 0]⟩, .string ⟨#[100, 105, 114, 49, 0, 1, 0, 1, 97, 0, 0, 0, 0, 0, 1]⟩, .string ⟨#[100, 105, 114, 49, 0, 1, 0, 255, 97, 0, 0, 0, 0, 0, 0]⟩, .string ⟨#[100, 105, 114, 49, 0, 1, 0, 1, 97, 1, 0, 0, 0, 0, 0]⟩, .string ⟨#[100, 105, 114, 49, 255, 255]⟩, .string ⟨#[100, 105, 114, 49, 0, 1, 0, 1, 97, 0, 0, 0, 0, 255, 255]⟩] 9) = w0
  have HB : Hid (TextsAt w0.heap (.slice (some ⟨w.heap.size, 0, none⟩) 14 14) wrongZ) := by rw [← hw0]; exact HB.out
  have HK0 : Hid (Keeps w w0) := by rw [← hw0]; exact HK0.out
  clear hw0
  go_loopw [7] (fun i wr => ∃ k : Nat, k ≤ 14 ∧ i = .int .i64 k ∧ Hid (Keeps w0 wr)) (fun i _ => 14 - (intOf i).toNat)
  case atStart => exact ⟨0, by omega, rfl, keeps_refl _⟩
  case round =>
    obtain ⟨k, hk, rfl, hK⟩ := hrel
    by_cases hlt : k < 14
    · have hlt64 : (k : Int) < 14 := by omega
      have hlt65 : decide ((k : Int) < 14) = true := decide_eq_true (by omega)
      have hk0 : (0 : Int) ≤ (k : Int) := by omega
      obtain ⟨b1, o1, e1, c1⟩ := text_cell (SeqAt.keeps HB.out hK.out) (i := k) hlt
      have hmem : tAt wrongZ k ∈ wrongZ := by rw [tAt_eq (l := wrongZ) hlt]; exact List.getElem_mem _
      have HNO := Lib.hid (fun wx => nread_no (tAt wrongZ k) (wrongZ_none hmem) (HSZ.out _ hmem) wx)
      injection e1 with e1
      injection e1 with e11 e12 _
      subst e11 e12
      rw [Nat.zero_add] at c1
      clear hmem
      generalize tAt wrongZ k = x at *
      go_wp2_with fail
      refine Calls.mono (HNO.out _) ?_
      rintro e w2 ⟨rfl, hk2⟩
      have HK2 := Lib.hid (hK.out.trans hk2)
      clear hk2 HNO
      go_wp2_with fail
      exact ⟨⟨k + 1, by omega, by go_num, HK2⟩, by simp [intOf]; omega⟩
    · obtain rfl : k = 14 := by omega
      have HKW := Lib.hid (HK0.out.trans hK.out)
      clear HB hK HK0 hlt
      go_wp2_with fail
      go_ret
      exact ⟨rfl, HKW.out⟩
theorem makeB_one {x : EntR} (h : mayE x = true) : (makeB [x]).length = 14 + x.n.size + 32 * x.c.length := by
  have e : makeB [x] = [100, 105, 114, 49] ++ (numB 1 2 ++ (entB x ++ [])) := by unfold makeB makeTo; simp
  rw [e]
  simp only [List.length_append, entB_length h, numB_length, List.length_cons, List.length_nil]
  omega
theorem makeE_one {x : EntR} (h : mayE x = true) (hs : 14 + x.n.size + 32 * x.c.length ≤ 16384) : makeE [x] = (strB (makeB [x]), 0) := by
  unfold makeE
  rw [may_single, h, if_pos rfl, if_neg (by rw [makeB_one h]; omega)]
theorem makeE_big {x : EntR} (h : mayE x = true) (hs : 16384 < 14 + x.n.size + 32 * x.c.length) : makeE [x] = (⟨#[]⟩, 40) := by
  unfold makeE
  rw [may_single, h, if_pos rfl, if_pos (by rw [makeB_one h]; omega)]
/-- One entry in a block behind a block. -/
theorem ents_lone {w : World} (x : EntR) (v : Value) (h : SeqAt IsText w.heap v x.c) (hq : ∀ a n q, v = .slice a n q → n ≤ q) {N : Nat} (hN : N = w.heap.size) : EntsAt (w.alloc (.cells #[.string x.n, .bool x.d, .int .i64 x.z, v] 33)).heap (.slice (some ⟨N, 0, none⟩) 1 1) [x] := by
  subst hN; exact ents_one w x v h hq
theorem str_frontN (x : ByteArray) (k : Nat) (h : k ≤ x.size) : ∀ wx : World, (Instr.slice 9 (.string x) none (some (.int .i64 (k : Int))) none).run Tryd.prog wx = .ok (.string (strB (x.data.toList.take k))) wx := fun wx => by
  rw [run_slice_string_to_if _ _ _ _ _ Tryd.underlying9, if_pos (by omega), ext_take]; rfl
theorem str_backN (x : ByteArray) (k : Nat) (h : k ≤ x.size) : ∀ wx : World, (Instr.slice 9 (.string x) (some (.int .i64 (k : Int))) none none).run Tryd.prog wx = .ok (.string (strB (x.data.toList.drop k))) wx := fun wx => by
  rw [run_slice_string_from_if _ _ _ _ _ Tryd.underlying9, if_pos (by omega), ext_drop]; rfl
def aN (n : Nat) : ByteArray := manyB n 97
def eX (n : Nat) : EntR := fileR (aN n) 16384 511
theorem eX_may (n : Nat) (h : n = 10 ∨ n = 18 ∨ n = 19) : mayE (eX n) = true := by
  rcases h with rfl | rfl | rfl <;> decide +kernel
theorem aN_size (n : Nat) : (aN n).size = n := by unfold aN manyB; rw [strB_size, List.length_replicate]
theorem eX_n (n : Nat) : (eX n).n.size = n := aN_size n
theorem eX_c (n : Nat) : (eX n).c.length = 511 := List.length_replicate
theorem aN_lit : aN 10 = ⟨#[97, 97, 97, 97, 97, 97, 97, 97, 97, 97]⟩ := rfl
def bX : ByteArray := strB (makeB [eX 18])
theorem bX_size : bX.size = 16384 := by unfold bX; rw [strB_size, makeB_one (eX_may 18 (by simp)), eX_n, eX_c]
theorem bX_read : readP bX.data.toList = some [eX 18] := by
  refine readP_some.2 ⟨by rw [may_single]; exact eX_may 18 (by simp), ?_, rfl⟩
  rw [data_size, bX_size]; exact Nat.le_refl _
theorem read_long {x : ByteArray} (h : 16384 < x.size) : readP x.data.toList = none := by
  cases hr : readP x.data.toList with
  | none => rfl
  | some l =>
    have := (readP_some.1 hr).2.1
    rw [data_size] at this
    omega
def edgP (B X7 X8 Y9 Z : ByteArray) : Nat → Value → Prop
  | i, v => v = ([.string B, .string X7, .string Y9, .string B, .string X8, .string Z, .tuple #[.slice none 0 0, .int .i64 4], .tuple #[.slice none 0 0, .int .i64 4], .slice none 0 0, .int .i64 4, .slice none 0 0, .int .i64 4] : List Value).getD i undef
/-- An entry of 511 chunks, in block G. -/
structure EdS (w wr : World) (G : Nat) (nm : ByteArray) (p : Option Addr) (q : Nat) : Prop where
  kp : Keeps w wr
  xb : BlkAt wr G 33 #[.string nm, .bool false, .int .i64 16384, .slice p 511 q]
  sq : SeqIn (fun _ => True) 9 IsText wr.heap (.slice p 511 q) (List.replicate 511 chC)
  gw : w.heap.size ≤ G
  pq : 511 ≤ q
section
variable {w wr w' : World} {G G' : Nat} {nm nm' : ByteArray} {p : Option Addr} {q : Nat}
theorem EdS.keeps (x : EdS w wr G nm p q) (k : Keeps wr w') : EdS w w' G nm p q := ⟨x.kp.trans k, x.xb.keeps k, SeqIn.chg (T := fun _ => False) x.sq (Kept.any k) (fun _ _ _ _ x => x) fun _ _ _ x => x, x.gw, x.pq⟩
theorem EdS.new (x : EdS w wr G nm p q) : EdS w (wr.alloc (.cells #[.string nm, .bool false, .int .i64 16384, .slice p 511 q] 33)) wr.heap.size nm p q := ⟨x.kp.trans (kal _ _), BlkAt.new _ _ _, (x.keeps (kal _ _)).sq, x.kp.size, x.pq⟩
theorem EdS.name (x : EdS w wr G nm p q) (nm' : ByteArray) : EdS w (wr.setCell ⟨G, 0, none⟩ (.string nm')) G nm' p q :=
  ⟨((Kept.any (T := fun k => k = G) x.kp).trans (chg_set wr G 0 _)).keeps fun k h1 h2 => by have := x.gw; omega, x.xb.set 0 _, SeqIn.chg x.sq (chg_set wr G 0 _) (fun b _ _ ht e => by subst e; rw [x.xb.typ] at ht; exact absurd ht (by decide)) fun _ _ _ x => x, x.gw, x.pq⟩
theorem EdS.other (x : EdS w wr G nm p q) (y : EdS w wr G' nm' p q) (hne : G' ≠ G) (v : Value) : EdS w (wr.setCell ⟨G', 0, none⟩ v) G nm p q :=
  ⟨((Kept.any (T := fun k => k = G') x.kp).trans (chg_set wr G' 0 _)).keeps fun k h1 h2 => by have := y.gw; omega, x.xb.other hne v, SeqIn.chg x.sq (chg_set wr G' 0 _) (fun b _ _ ht e => by subst e; rw [y.xb.typ] at ht; exact absurd ht (by decide)) fun _ _ _ x => x, x.gw, x.pq⟩
theorem EdS.ents (x : EdS w wr G nm p q) {N : Nat} (hN : N = wr.heap.size) : EntsAt (wr.alloc (.cells #[.string nm, .bool false, .int .i64 16384, .slice p 511 q] 33)).heap (.slice (some ⟨N, 0, none⟩) 1 1) [⟨nm, false, 16384, List.replicate 511 chC⟩] :=
  ents_lone ⟨nm, false, 16384, List.replicate 511 chC⟩ _ (SeqIn.at_ x.sq) (fun a n c e => by cases e; exact x.pq) hN
end
set_option maxRecDepth 100000 in
set_option maxHeartbeats 8000000 in
theorem edge_any (w : World) : Calls Tryd.prog 46 #[] w fun e w' => e = .returned (.bool true) ∧ Keeps w w' := by
  have HL10 := aN_lit
  have HM18 : Hid (∀ wx, Calls Tryd.prog 43 #[.int .i64 18, .int .u8 97] wx fun e w' => e = .returned (.string (aN 18)) ∧ Keeps wx w') := fun wx => many_any 18 97 wx (by decide)
  have HM19 : Hid (∀ wx, Calls Tryd.prog 43 #[.int .i64 19, .int .u8 97] wx fun e w' => e = .returned (.string (aN 19)) ∧ Keeps wx w') := fun wx => many_any 19 97 wx (by decide)
  have HFL : Hid (∀ wx, Calls Tryd.prog 44 #[.string (aN 10), .int .i64 16384, .int .i64 511] wx fun e w' => ∃ p q, e = .returned (.agg #[.string (aN 10), .bool false, .int .i64 16384, .slice p 511 q]) ∧ SeqIn (fun _ => True) 9 IsText w'.heap (.slice p 511 q) (List.replicate 511 chC) ∧ 511 ≤ q ∧ Keeps wx w') := fun wx => (file_any (aN 10) 16384 511 wx (by decide)).mono fun e w' ⟨p, q, a, b, c, d⟩ => ⟨p, q, a, b.mono (fun _ _ => trivial) (fun _ _ x => x), c, d⟩
  rw [HL10] at HFL
  go_enter Tryd.func46, Tryd.ntmps46
  go_wp2_with fail
  refine Calls.mono (HFL.out _) ?_
  rintro e w1 ⟨p, q, rfl, hsq, hpq, hk1⟩
  rw [← HL10]
  clear HL10 HFL
  obtain ⟨a10, h10⟩ : ∃ a, aN 10 = a := ⟨_, rfl⟩
  rw [h10]
  obtain ⟨a18, h18⟩ : ∃ a, aN 18 = a := ⟨_, rfl⟩
  rw [h18] at HM18
  obtain ⟨a19, h19⟩ : ∃ a, aN 19 = a := ⟨_, rfl⟩
  rw [h19] at HM19
  have HX10 : Hid ((⟨a10, false, 16384, List.replicate 511 chC⟩ : EntR) = eX 10) := by show _ = _; rw [← h10]; rfl
  have HX18 : Hid ((⟨a18, false, 16384, List.replicate 511 chC⟩ : EntR) = eX 18) := by show _ = _; rw [← h18]; rfl
  have HX19 : Hid ((⟨a19, false, 16384, List.replicate 511 chC⟩ : EntR) = eX 19) := by show _ = _; rw [← h19]; rfl
  have HA0 : EdS w (w1.alloc (.cells #[.string a10, .bool false, .int .i64 16384, .slice p 511 q] 33)) w1.heap.size a10 p q := ⟨hk1.trans (kal _ _), BlkAt.new _ _ _, SeqIn.chg (T := fun _ => False) hsq (Kept.any (kal _ _)) (fun _ _ _ _ x => x) fun _ _ _ x => x, hk1.size, hpq⟩
  have HA := Lib.hid HA0
  clear h10 h18 h19 HA0 hsq hpq hk1
  go_upto_region 2 with (refine wpList_store_row rfl 33 (.tmp 1) (.tmp 16) rfl w1.heap.size #[.string a10, .bool false, .int .i64 16384, .slice p 511 q] rfl rfl 33 _ (heap_alloc_last w1 _) (by kernel_rfl) rfl (entA_one a10 false 16384 _ _ _) ?_; rw [World.setRow_alloc_new])
  generalize w1.alloc (.cells #[.string a10, .bool false, .int .i64 16384, .slice p 511 q] 33) = w2 at *
  generalize w1.heap.size = G1 at *
  have d0 : w2.cell? ⟨G1, 0, none⟩ = some (.string a10) := HA.out.xb.cell rfl
  have d1 : w2.cell? ⟨G1, 1, none⟩ = some (.bool false) := HA.out.xb.cell rfl
  have d2 : w2.cell? ⟨G1, 2, none⟩ = some (.int .i64 16384) := HA.out.xb.cell rfl
  have d3 : w2.cell? ⟨G1, 3, none⟩ = some (.slice p 511 q) := HA.out.xb.cell rfl
  go_wp2_with fail
  clear d0 d1 d2 d3
  refine Calls.mono (nmake_any _ [⟨a10, false, 16384, List.replicate 511 chC⟩] _ (HA.out.ents rfl)) ?_
  rintro e w3 ⟨rfl, hk9⟩
  rw [HX10.out, makeE_one (eX_may 10 (by simp)) (by rw [eX_n, eX_c]; decide)]
  dsimp only
  have hz1 : (strB (makeB [eX 10])).size = 16376 := by rw [strB_size, makeB_one (eX_may 10 (by simp)), eX_n, eX_c]
  have HA := Lib.hid (HA.out.keeps ((kal _ _).trans hk9))
  clear hk9
  generalize strB (makeB [eX 10]) = S1 at *
  clear HX10
  have HA1 : Hid (G1 < w3.heap.size) := HA.out.xb.lt
  have d0 : w3.cell? ⟨G1, 0, none⟩ = some (.string a10) := HA.out.xb.cell rfl
  have d1 : w3.cell? ⟨G1, 1, none⟩ = some (.bool false) := HA.out.xb.cell rfl
  have d2 : w3.cell? ⟨G1, 2, none⟩ = some (.int .i64 16384) := HA.out.xb.cell rfl
  have d3 : w3.cell? ⟨G1, 3, none⟩ = some (.slice p 511 q) := HA.out.xb.cell rfl
  go_upto_region 4 with (refine wpList_store_row rfl 33 (.tmp 4) (.tmp 23) rfl w3.heap.size #[.string a10, .bool false, .int .i64 16384, .slice p 511 q] rfl rfl 33 _ (heap_alloc_last w3 _) (by kernel_rfl) rfl (entA_one a10 false 16384 _ _ _) ?_; rw [World.setRow_alloc_new])
  clear d0 d1 d2 d3
  have HY := Lib.hid HA.out.new
  have HA := Lib.hid (HA.out.keeps (kal w3 (.cells #[.string a10, .bool false, .int .i64 16384, .slice p 511 q] 33)))
  have hne : w3.heap.size ≠ G1 := by have := HA1.out; omega
  generalize w3.alloc (.cells #[.string a10, .bool false, .int .i64 16384, .slice p 511 q] 33) = w4 at *
  generalize w3.heap.size = G4 at *
  go_wp2_with fail
  refine Calls.mono (HM18.out _) ?_
  rintro e w5 ⟨rfl, hkm⟩
  have HY := Lib.hid (HY.out.keeps hkm)
  have HA := Lib.hid (HA.out.keeps hkm)
  clear hkm
  have c0 : w5.cell? ⟨G4, 0, none⟩ = some (.string a10) := HY.out.xb.cell rfl
  have f0 := HY.out.xb.froz 0
  go_upto_region 5 with fail
  clear c0 f0
  have HA := Lib.hid (HA.out.other HY.out hne (.string a18))
  have HY := Lib.hid (HY.out.name a18)
  clear hne
  generalize w5.setCell ⟨G4, 0, none⟩ (.string a18) = w6 at *
  clear HA1
  have d0 : w6.cell? ⟨G4, 0, none⟩ = some (.string a18) := HY.out.xb.cell rfl
  have d1 : w6.cell? ⟨G4, 1, none⟩ = some (.bool false) := HY.out.xb.cell rfl
  have d2 : w6.cell? ⟨G4, 2, none⟩ = some (.int .i64 16384) := HY.out.xb.cell rfl
  have d3 : w6.cell? ⟨G4, 3, none⟩ = some (.slice p 511 q) := HY.out.xb.cell rfl
  go_wp2_with fail
  clear d0 d1 d2 d3
  refine Calls.mono (nmake_any _ [⟨a18, false, 16384, List.replicate 511 chC⟩] _ (HY.out.ents rfl)) ?_
  rintro e w7 ⟨rfl, hk9⟩
  rw [HX18.out, makeE_one (eX_may 18 (by simp)) (by rw [eX_n, eX_c]; decide)]
  dsimp only
  rw [show strB (makeB [eX 18]) = bX from rfl]
  have HA := Lib.hid (HA.out.keeps ((kal _ _).trans hk9))
  have HY := Lib.hid (HY.out.keeps ((kal _ _).trans hk9))
  clear hk9
  have HA1 : Hid (G1 < w7.heap.size) := HA.out.xb.lt
  clear HX18 HY
  have d0 : w7.cell? ⟨G1, 0, none⟩ = some (.string a10) := HA.out.xb.cell rfl
  have d1 : w7.cell? ⟨G1, 1, none⟩ = some (.bool false) := HA.out.xb.cell rfl
  have d2 : w7.cell? ⟨G1, 2, none⟩ = some (.int .i64 16384) := HA.out.xb.cell rfl
  have d3 : w7.cell? ⟨G1, 3, none⟩ = some (.slice p 511 q) := HA.out.xb.cell rfl
  go_upto_region 7 with (refine wpList_store_row rfl 33 (.tmp 7) (.tmp 32) rfl w7.heap.size #[.string a10, .bool false, .int .i64 16384, .slice p 511 q] rfl rfl 33 _ (heap_alloc_last w7 _) (by kernel_rfl) rfl (entA_one a10 false 16384 _ _ _) ?_; rw [World.setRow_alloc_new])
  clear d0 d1 d2 d3
  have HZ := Lib.hid HA.out.new
  have HA := Lib.hid (HA.out.keeps (kal w7 (.cells #[.string a10, .bool false, .int .i64 16384, .slice p 511 q] 33)))
  have hne : w7.heap.size ≠ G1 := by have := HA1.out; omega
  generalize w7.alloc (.cells #[.string a10, .bool false, .int .i64 16384, .slice p 511 q] 33) = w8 at *
  generalize w7.heap.size = G7 at *
  go_wp2_with fail
  refine Calls.mono (HM19.out _) ?_
  rintro e w9 ⟨rfl, hkm⟩
  have HZ := Lib.hid (HZ.out.keeps hkm)
  have HA := Lib.hid (HA.out.keeps hkm)
  clear hkm
  have c0 : w9.cell? ⟨G7, 0, none⟩ = some (.string a10) := HZ.out.xb.cell rfl
  have f0 := HZ.out.xb.froz 0
  go_upto_region 8 with fail
  clear c0 f0
  have HA := Lib.hid (HA.out.other HZ.out hne (.string a19))
  have HZ := Lib.hid (HZ.out.name a19)
  clear hne
  generalize w9.setCell ⟨G7, 0, none⟩ (.string a19) = wa at *
  clear HA1
  have d0 : wa.cell? ⟨G7, 0, none⟩ = some (.string a19) := HZ.out.xb.cell rfl
  have d1 : wa.cell? ⟨G7, 1, none⟩ = some (.bool false) := HZ.out.xb.cell rfl
  have d2 : wa.cell? ⟨G7, 2, none⟩ = some (.int .i64 16384) := HZ.out.xb.cell rfl
  have d3 : wa.cell? ⟨G7, 3, none⟩ = some (.slice p 511 q) := HZ.out.xb.cell rfl
  go_wp2_with fail
  clear d0 d1 d2 d3
  refine Calls.mono (nmake_any _ [⟨a19, false, 16384, List.replicate 511 chC⟩] _ (HZ.out.ents rfl)) ?_
  rintro e wb ⟨rfl, hk9⟩
  rw [HX19.out, makeE_big (eX_may 19 (by simp)) (by rw [eX_n, eX_c]; decide)]
  dsimp only
  have HZ := Lib.hid (HZ.out.keeps ((kal _ _).trans hk9))
  clear hk9
  have HK8 := Lib.hid HZ.out.kp
  clear HX19 HZ HA HM18 HM19
  have HBZ : Hid (bX.size = 16384) := bX_size
  have HRD := Lib.hid (fun wx => nread_yes bX [eX 18] bX_read (by rw [bX_size]; decide) (by decide) wx)
  obtain ⟨BA, hBA⟩ : ∃ B, bX ++ ⟨#[97]⟩ = B := ⟨_, rfl⟩
  have HRA := Lib.hid (fun wx => nread_no BA (read_long (by rw [← hBA, ByteArray.size_append, bX_size]; decide)) (by rw [← hBA, ByteArray.size_append, bX_size]; decide) wx)
  obtain ⟨X7, h7⟩ : ∃ X, strB (bX.data.toList.take 7) = X := ⟨_, rfl⟩
  obtain ⟨X8, h8⟩ : ∃ X, strB (bX.data.toList.drop 8) = X := ⟨_, rfl⟩
  have hs7 : X7.size = 7 := by rw [← h7, strB_size, List.length_take, data_size, bX_size]; decide
  have hs8 : X8.size = 16376 := by rw [← h8, strB_size, List.length_drop, data_size, bX_size]
  obtain ⟨Y9, h9⟩ : ∃ Y, X7 ++ ⟨#[19, 97]⟩ = Y := ⟨_, rfl⟩
  have hs9 : Y9.size = 9 := by rw [← h9, ByteArray.size_append, hs7]; rfl
  obtain ⟨Z, hZ⟩ : ∃ Z, Y9 ++ X8 = Z := ⟨_, rfl⟩
  have hsZ : Z.size = 16385 := by rw [← hZ, ByteArray.size_append, hs9, hs8]
  have HZR : Hid (∀ wx, Calls Tryd.prog 15 #[.string Z] wx fun e w' => e = .returned (.tuple #[.slice none 0 0, .int .i64 4]) ∧ Keeps wx w') := fun wx => nread_no Z (read_long (by omega)) (by omega) wx
  have HS7 := str_frontN bX 7 (by rw [bX_size]; decide)
  have HS8 := str_backN bX 8 (by rw [bX_size]; decide)
  rw [h7] at HS7
  rw [h8] at HS8
  have HA : Hid ((∀ wx : World, (Instr.slice 9 (.string bX) none (some (.int .i64 7)) none).run Tryd.prog wx = .ok (.string X7) wx) ∧ X7 ++ ⟨#[19, 97]⟩ = Y9 ∧ (9223372036854775807 < X7.size + 2) = False ∧ True) := ⟨HS7, h9, eq_false (by omega), trivial⟩
  have HA2 : Hid ((∀ wx : World, (Instr.slice 9 (.string bX) (some (.int .i64 8)) none none).run Tryd.prog wx = .ok (.string X8) wx) ∧ Y9 ++ X8 = Z ∧ (9223372036854775807 < Y9.size + X8.size) = False) := ⟨HS8, hZ, eq_false (by omega)⟩
  have q1 := hBA
  have q2 : (9223372036854775807 < bX.size + 1) = False := eq_false (by rw [bX_size]; decide)
  have HQ := Lib.hid q1
  clear HS7 HS8 h7 h8 h9 hZ hs7 hs8 hs9 hsZ hBA q1
  have hz2 := HBZ.out
  generalize bX = B at *
  go_wp2_with fail
  refine Calls.mono (HRD.out _) ?_
  rintro e wc1 ⟨v10, rfl, h10, hk9⟩
  obtain ⟨p10, q10, rfl⟩ := rec_shape h10
  have HK8 := Lib.hid (HK8.out.trans hk9)
  clear hk9 h10 HRD
  have q1 := HQ.out
  go_wp2_with fail
  clear q1 q2 HQ
  refine Calls.mono (HRA.out _) ?_
  rintro e wz ⟨rfl, hk9⟩
  have HK9 := Lib.hid (HK8.out.trans hk9)
  clear hk9 HRA HK8
  go_upto_region 13 with fail
  refine wp_region_stage [55, 56, 57, 58, 59, 60, 61, 54, 62, 63, 14, 15] [[], [0], [1], [], [3], [2, 4], [5], [6], [7], [7], [8], [9]] [] [0, 0, 0, 0, 0, 0, 0, 0, 0, 0, 0, 0] [] (fun i v _ => edgP B X7 X8 Y9 Z i v) (fun w w' => Keeps w w') (fun _ _ w' => Keeps wz w') (by kernel_rfl) (by kernel_rfl) (by kernel_rfl) (by kernel_rfl) (by kernel_rfl) (by kernel_rfl) (by kernel_rfl) ?_ ?_ ?_ ?_ ?_ ?_ ?_
  · exact fun i v w w' c h => h
  · exact fun w => keeps_refl w
  · exact fun i s vs w _ h => h
  · refine ⟨?_, ?_, ?_, ?_, ?_, ?_, ?_, ?_, ?_, ?_, ?_, ?_, trivial⟩
    · exact fun g b h => by (cases h)
    · exact fun g b h => by (cases h)
    · exact fun g b h => by (cases h)
    · exact fun g b h => by (cases h)
    · exact fun g b h => by (cases h)
    · exact fun g b h => by (cases h)
    · exact fun g b h => by (cases h)
    · exact fun g b h => by (cases h)
    · exact fun g b h => by (cases h)
    · exact fun g b h => by (cases h)
    · exact fun g b h => by (cases h)
    · exact fun g b h => by (cases h)
  · exact fun _ _ => keeps_refl wz
  · refine ⟨?_, ?_, ?_, ?_, ?_, ?_, ?_, ?_, ?_, ?_, ?_, ?_, trivial⟩
    · intro _ a w1 vs hI ho hn hu K hK
      have e5 : a.tmps[5]? = some (.string B) := ho 5 rfl
      clear hn ho hu
      go_simp
      exact hK _ _ (keeps_refl _) hI rfl
    · intro _ a w1 vs hI ho hn hu K hK
      obtain ⟨e55, g55⟩ : a.tmps[55]? = some (vs 0) ∧ vs 0 = .string B := hn 0 (by decide)
      rw [g55] at e55
      clear g55
      clear hn ho hu
      have c := HA.out.1
      go_simp
      exact hK _ _ (keeps_refl _) hI rfl
    · intro _ a w1 vs hI ho hn hu K hK
      obtain ⟨e56, g56⟩ : a.tmps[56]? = some (vs 1) ∧ vs 1 = .string X7 := hn 1 (by decide)
      rw [g56] at e56
      clear g56
      clear hn ho hu
      have q1 := HA.out.2.1
      have q2 := HA.out.2.2.1
      go_simp
      exact hK _ _ (keeps_refl _) hI rfl
    · intro _ a w1 vs hI ho hn hu K hK
      have e5 : a.tmps[5]? = some (.string B) := ho 5 rfl
      clear hn ho hu
      go_simp
      exact hK _ _ (keeps_refl _) hI rfl
    · intro _ a w1 vs hI ho hn hu K hK
      obtain ⟨e58, g58⟩ : a.tmps[58]? = some (vs 3) ∧ vs 3 = .string B := hn 3 (by decide)
      rw [g58] at e58
      clear g58
      clear hn ho hu
      have c := HA2.out.1
      go_simp
      exact hK _ _ (keeps_refl _) hI rfl
    · intro _ a w1 vs hI ho hn hu K hK
      obtain ⟨e57, g57⟩ : a.tmps[57]? = some (vs 2) ∧ vs 2 = .string Y9 := hn 2 (by decide)
      rw [g57] at e57
      clear g57
      obtain ⟨e59, g59⟩ : a.tmps[59]? = some (vs 4) ∧ vs 4 = .string X8 := hn 4 (by decide)
      rw [g59] at e59
      clear g59
      clear hn ho hu
      have q1 := HA2.out.2.1
      have q2 := HA2.out.2.2
      go_simp
      exact hK _ _ (keeps_refl _) hI rfl
    · intro _ a w1 vs hI ho hn hu K hK
      obtain ⟨e60, g60⟩ : a.tmps[60]? = some (vs 5) ∧ vs 5 = .string Z := hn 5 (by decide)
      rw [g60] at e60
      clear g60
      clear hn ho hu
      go_simp
      refine Calls.mono (HZR.out _) ?_
      rintro e w' ⟨rfl, hk2⟩
      go_simp
      exact hK _ _ hk2 (Keeps.trans hI hk2) rfl
    · intro _ a w1 vs hI ho hn hu K hK
      obtain ⟨e61, g61⟩ : a.tmps[61]? = some (vs 6) ∧ vs 6 = .tuple #[.slice none 0 0, .int .i64 4] := hn 6 (by decide)
      rw [g61] at e61
      clear g61
      clear hn ho hu
      go_simp
      exact hK _ _ (keeps_refl _) hI rfl
    · intro _ a w1 vs hI ho hn hu K hK
      obtain ⟨e54, g54⟩ : a.tmps[54]? = some (vs 7) ∧ vs 7 = .tuple #[.slice none 0 0, .int .i64 4] := hn 7 (by decide)
      rw [g54] at e54
      clear g54
      clear hn ho hu
      go_simp
      exact hK _ _ (keeps_refl _) hI rfl
    · intro _ a w1 vs hI ho hn hu K hK
      obtain ⟨e54, g54⟩ : a.tmps[54]? = some (vs 7) ∧ vs 7 = .tuple #[.slice none 0 0, .int .i64 4] := hn 7 (by decide)
      rw [g54] at e54
      clear g54
      clear hn ho hu
      go_simp
      exact hK _ _ (keeps_refl _) hI rfl
    · intro _ a w1 vs hI ho hn hu K hK
      obtain ⟨e62, g62⟩ : a.tmps[62]? = some (vs 8) ∧ vs 8 = .slice none 0 0 := hn 8 (by decide)
      rw [g62] at e62
      clear g62
      clear hn ho hu
      go_simp
      exact hK _ _ (keeps_refl _) hI rfl
    · intro _ a w1 vs hI ho hn hu K hK
      obtain ⟨e63, g63⟩ : a.tmps[63]? = some (vs 9) ∧ vs 9 = .int .i64 4 := hn 9 (by decide)
      rw [g63] at e63
      clear g63
      clear hn ho hu
      go_simp
      exact hK _ _ (keeps_refl _) hI rfl
  · intro vs wE hI hG
    have eL10 : vs 10 = .slice none 0 0 := hG 10 (by decide)
    have eL11 : vs 11 = .int .i64 4 := hG 11 (by decide)
    have HKE := Lib.hid hI
    clear hG hI
    simp only [setAll, Nat.zero_add, Nat.reduceAdd, List.setIfInBounds_toArray, List.set_cons_zero, List.set_cons_succ, eL10, eL11]
    clear eL10 eL11
    generalize vs 0 = y0 at *
    generalize vs 1 = y1 at *
    generalize vs 2 = y2 at *
    generalize vs 3 = y3 at *
    generalize vs 4 = y4 at *
    generalize vs 5 = y5 at *
    generalize vs 6 = y6 at *
    generalize vs 7 = y7 at *
    generalize vs 8 = y8 at *
    generalize vs 9 = y9 at *
    have HKZ := Lib.hid (HK9.out.trans HKE.out)
    clear HKE HK9
    go_wp2_with fail
    go_ret
    exact ⟨rfl, HKZ.out⟩
end Go.Proofs.YtdpfanifagfciaaDoor
