/- The walk of frame.Read. -/
import Derived.Test.YtcapalofocmmoaaFrTake
import Derived.Test.YtcapalofocmmoaaStageF
import Derived.Deep.RegionHeld3
import Derived.Laws.Rows
namespace Go.Proofs.Ytcapalofocmmoaa
open Go.RowKit
theorem store_func (wx : World) (b : Nat) (f : Fn) (c1 c2 : Array Value) (hc : (wx.cell? ⟨b, 0, none⟩).isSome = true) (hf : wx.frozen? ⟨b, 0, none⟩ = false) : (store ⟨b, 0, none⟩ (.func f c1 c2)).run Try.prog wx = .ok () (wx.setCell ⟨b, 0, none⟩ (.func f c1 c2)) := by
  obtain ⟨v0, h0⟩ := Option.isSome_iff_exists.1 hc
  rw [run_store Try.prog wx _ _ _ rfl, h0]
  simp [hf]
def frA (ep gen k n : Int) (b : ByteArray) : Array Value := #[.int .i64 ep, .int .i64 gen, .int .i64 k, .int .i64 n, .string b]
theorem frA_one (ep gen k n : Int) (b : ByteArray) : (frA ep gen k n b).all (·.oneCell') = true :=
  Array.all_eq_true_iff_forall_mem.2 fun v hv => by
    have hv' : v ∈ (frA ep gen k n b).toList := by simpa using hv
    simp only [frA, List.mem_cons, List.not_mem_nil, or_false] at hv'
    rcases hv' with rfl | rfl | rfl | rfl | rfl <;> rfl
/-- Block g is a frame. -/
def FrRow (w : World) (g : Nat) (ep gen k n : Int) (b : ByteArray) : Prop := w.heap[g]? = some (.cells (frA ep gen k n b) 47 (0, 0))
theorem FrRow.set {w : World} {g : Nat} {ep gen k n : Int} {b : ByteArray} (h : FrRow w g ep gen k n b) (ep' gen' k' n' : Int) (b' : ByteArray) : FrRow (w.setRow g (frA ep' gen' k' n' b')) g ep' gen' k' n' b' := setRow_heap w g _ _ _ _ h
theorem FrRow.chg {T : Nat → Prop} {w w' : World} {g : Nat} {ep gen k n : Int} {b : ByteArray} (h : FrRow w g ep gen k n b) (c : Chg T w w') (hT : ¬ T g) : FrRow w' g ep gen k n b := (c.2.2.2.2 g (Array.getElem?_eq_some_iff.1 h).1 hT).trans h
set_option maxRecDepth 100000 in
theorem fr_results {fn : Func} {p u : Tmp} (h : fn.results = #[.cell p 47, .tmp u]) (tmps : Array Value) (w : World) (g : Nat) (ep gen k n : Int) (b : ByteArray) (hp : tmps.getD p undef = .pointer (some ⟨g, 0, none⟩)) (hg : FrRow w g ep gen k n b) :
    (results fn tmps).run Try.prog w = .ok (.tuple #[frV ep gen k n b, tmps.getD u undef]) w := by
  rw [results_cell_tmp h, hp]
  show ((loadVar 47 ⟨g, 0, none⟩).run Try.prog w).andThen _ = _
  rw [run_loadVar_row w g _ 47 (frA ep gen k n b) (0, 0) _ hg Try.underlying47 rfl (by kernel_rfl)]; rfl
theorem FrRow.keeps {w w' : World} {g : Nat} {ep gen k n : Int} {b : ByteArray} (h : FrRow w g ep gen k n b) (c : Keeps w w') : FrRow w' g ep gen k n b := h.chg (T := fun _ => False) (Kept.any c) (fun x => x)
def fnV (b5 b6 : Nat) : Value := .func (.func 46) #[] #[.pointer (some ⟨b5, 0, none⟩), .pointer (some ⟨b6, 0, none⟩)]
/-- The state while a frame is read: what is left, the function that takes, the result's block. -/
structure RdX (w0 w : World) (g b5 b6 b7 : Nat) (r : List UInt8) (bad : Bool) : Prop where
  rd : RdS w b5 b6 r bad
  c7 : w.cell? ⟨b7, 0, none⟩ = some (fnV b5 b6)
  fr : FrRow w g 0 0 0 0 ⟨#[]⟩
  kp : Keeps w0 w
theorem RdX.keeps {w0 w w' : World} {g b5 b6 b7 : Nat} {r : List UInt8} {bad : Bool} (x : RdX w0 w g b5 b6 b7 r bad) (k : Keeps w w') : RdX w0 w' g b5 b6 b7 r bad := ⟨x.rd.keeps k, keeps_cell k x.c7, x.fr.keeps k, x.kp.trans k⟩
theorem RdX.step {w0 w w' : World} {g b5 b6 b7 : Nat} {r r' : List UInt8} {bad bad' : Bool} (x : RdX w0 w g b5 b6 b7 r bad) (s : RdS w' b5 b6 r' bad') (c : Chg (fun y => y = b5 ∨ y = b6) w w') (h7 : b7 ≠ b5 ∧ b7 ≠ b6) (hg : g ≠ b5 ∧ g ≠ b6) (h0 : w0.heap.size ≤ b5 ∧ w0.heap.size ≤ b6) : RdX w0 w' g b5 b6 b7 r' bad' :=
  ⟨s, by have h := x.c7; rw [cell_of] at h ⊢; exact cellH_chg c h (by omega), x.fr.chg c (by omega), ((Kept.any (T := fun y => y = b5 ∨ y = b6) x.kp).trans c).keeps fun y h1 h2 => by omega⟩
/-- The bytes that are taken, and what is left. -/
def tkB (m : Nat) (r : List UInt8) : List UInt8 := if m ≤ r.length then r.take m else []
def drB (m : Nat) (r : List UInt8) : List UInt8 := if m ≤ r.length then r.drop m else r
def badB (m : Nat) (r : List UInt8) (b : Bool) : Bool := b || !decide (m ≤ r.length)
theorem frcount_x (m b5 b6 b7 : Nat) (r : List UInt8) (bad : Bool) (w : World) (h : RdS w b5 b6 r bad) (hne : b5 ≠ b6) (hm : m ≤ 4) (h7 : w.cell? ⟨b7, 0, none⟩ = some (fnV b5 b6)) :
    Calls Try.prog 47 #[.int .i64 (m : Int), .pointer (some ⟨b7, 0, none⟩)] w fun e w' => e = .returned (.int .i64 (beN (tkB m r) : Int)) ∧ RdS w' b5 b6 (drB m r) (badB m r bad) ∧ Chg (fun x => x = b5 ∨ x = b6) w w' := frcount_any m b5 b6 b7 r bad w h hne hm h7
theorem frtake_x (m b5 b6 : Nat) (r : List UInt8) (bad : Bool) (w : World) (h : RdS w b5 b6 r bad) (hne : b5 ≠ b6) (hm : m ≤ 4294967296) :
    Calls Try.prog 46 #[.int .i64 (m : Int), .pointer (some ⟨b5, 0, none⟩), .pointer (some ⟨b6, 0, none⟩)] w fun e w' => ∃ v, e = .returned v ∧ RdS w' b5 b6 (drB m r) (badB m r bad) ∧ SeqTy 5 IsByte w'.heap v (tkB m r) ∧ Chg (fun x => x = b5 ∨ x = b6) w w' := frtake_any m b5 b6 r bad w h hne hm
theorem set_other {w : World} {g b i : Nat} {v0 u : Value} (h : w.cell? ⟨g, i, none⟩ = some v0) (c : w.cell? ⟨b, 0, none⟩ = some u) (hne : g ≠ b) (v : Value) : (w.setCell ⟨g, i, none⟩ v).cell? ⟨b, 0, none⟩ = some u := by
  rw [cell_of] at h c ⊢
  rw [cellH_set _ _ _ _ _ _ _ h, if_neg (fun x => hne x.1)]; exact c
theorem RdX.other {w0 w w' : World} {g b5 b6 b7 N : Nat} {r : List UInt8} {bad : Bool} {ep gen k n : Int} {b : ByteArray} (x : RdX w0 w g b5 b6 b7 r bad) (f : FrRow w N ep gen k n b) (c : Chg (fun y => y = N) w w') (h5 : N ≠ b5 ∧ N ≠ b6) (h7 : N ≠ b7) (hg : N ≠ g ∧ w0.heap.size ≤ N) : RdX w0 w' g b5 b6 b7 r bad := by
  obtain ⟨⟨⟨gg, o, q, c5, hs, hq⟩, f5, c6, f6, t5, t6⟩, c7, fr, kp⟩ := x
  have n5 : ¬ b5 = N := fun e => h5.1 e.symm
  have n6 : ¬ b6 = N := fun e => h5.2 e.symm
  have n7 : ¬ b7 = N := fun e => h7 e.symm
  have ng : ¬ g = N := fun e => hg.1 e.symm
  refine ⟨⟨⟨gg, o, q, ?_, hs.chg c (fun y e x => by subst e; rw [typH_of f] at x; exact absurd x (by decide)), hq⟩, ?_, ?_, ?_, typH_chg c t5 n5, typH_chg c t6 n6⟩, ?_, fr.chg c ng, ((Kept.any (T := fun y => y = N) kp).trans c).keeps fun y h1 h2 => by omega⟩
  · rw [cell_of] at c5 ⊢; exact cellH_chg c c5 n5
  · rw [froz_of] at f5 ⊢; rw [frozH_chg c (typH_lt t5) n5]; exact f5
  · rw [cell_of] at c6 ⊢; exact cellH_chg c c6 n6
  · rw [froz_of] at f6 ⊢; rw [frozH_chg c (typH_lt t6) n6]; exact f6
  · rw [cell_of] at c7 ⊢; exact cellH_chg c c7 n7
theorem rdx_new {w w4 w5 wz : World} {T : List UInt8} {c : Nat} (hwz : wz = ((w5.alloc (.cells #[.slice (some ⟨w4.heap.size, 0, none⟩) (strB T).size c] 59)).alloc (.cells #[.bool false] 4)).alloc (.cells #[fnV w5.heap.size (w5.heap.size + 1)] 83))
    (hrow : RowIn (· = w4.heap.size) w5.heap (.slice (some ⟨w4.heap.size, 0, none⟩) (strB T).size c) (strB T).data.toList) (hc : (strB T).size ≤ c) (hk5 : Keeps w4 w5) (hr : FrRow w4 w.heap.size 0 0 0 0 ⟨#[]⟩) (hk : Keeps w w4) : RdX w wz w.heap.size w5.heap.size (w5.heap.size + 1) (w5.heap.size + 1 + 1) T false := by
  have eT : (strB T).data.toList = T := rfl
  rw [eT] at hrow
  rw [strB_size] at hrow hc hwz
  obtain ⟨wa, hwa⟩ : ∃ wa, wa = w5.alloc (.cells #[.slice (some ⟨w4.heap.size, 0, none⟩) T.length c] 59) := ⟨_, rfl⟩
  obtain ⟨wb, hwb⟩ : ∃ wb, wb = wa.alloc (.cells #[.bool false] 4) := ⟨_, rfl⟩
  rw [← hwa, ← hwb] at hwz
  have sa : wa.heap.size = w5.heap.size + 1 := by rw [hwa]; simp
  have sb : wb.heap.size = w5.heap.size + 1 + 1 := by rw [hwb]; simp [sa]
  have ka : Keeps w5 wa := by rw [hwa]; exact kal _ _
  have kb : Keeps wa wb := by rw [hwb]; exact kal _ _
  have kz : Keeps wb wz := by rw [hwz]; exact kal _ _
  have h5 : wa.heap[w5.heap.size]? = some (.cells #[.slice (some ⟨w4.heap.size, 0, none⟩) T.length c] 59 (0, 0)) := by rw [hwa]; exact heap_alloc_new _ _
  have h6 : wb.heap[wa.heap.size]? = some (.cells #[.bool false] 4 (0, 0)) := by rw [hwb]; exact heap_alloc_new _ _
  have h7 : wz.heap[wb.heap.size]? = some (.cells #[fnV w5.heap.size (w5.heap.size + 1)] 83 (0, 0)) := by rw [hwz]; exact heap_alloc_new _ _
  have c5 : wa.cell? ⟨w5.heap.size, 0, none⟩ = some (.slice (some ⟨w4.heap.size, 0, none⟩) T.length c) := cell_of_row wa _ 0 _ _ _ h5
  have c6 : wb.cell? ⟨wa.heap.size, 0, none⟩ = some (.bool false) := cell_of_row wb _ 0 _ _ _ h6
  have c7 : wz.cell? ⟨wb.heap.size, 0, none⟩ = some (fnV w5.heap.size (w5.heap.size + 1)) := cell_of_row wz _ 0 _ _ _ h7
  have kbz : Keeps wa wz := kb.trans kz
  have k5z : Keeps w5 wz := ka.trans kbz
  rw [sa] at c6 h6
  rw [sb] at c7
  exact ⟨⟨⟨w4.heap.size, 0, c, keeps_cell kbz c5, (SeqIn.ty hrow).keeps k5z, hc⟩, keeps_froz kbz c5 (frozen_of_row wa _ 0 _ _ h5), keeps_cell kz c6, keeps_froz kz c6 (frozen_of_row wb _ 0 _ _ h6), typH_chg (T := fun _ => False) (Kept.any kbz) (typH_of h5) (fun x => x), typH_chg (T := fun _ => False) (Kept.any kz) (typH_of h6) (fun x => x)⟩,
    c7, hr.keeps (hk5.trans k5z), hk.trans (hk5.trans k5z)⟩
theorem tk_lt (m : Nat) (r : List UInt8) (hm : m ≤ 4) : beN (tkB m r) < 4294967296 := by
  have h1 := beN_lt (tkB m r)
  have h2 : (tkB m r).length ≤ 4 := by
    unfold tkB
    split
    · rw [List.length_take]; omega
    · simp
  have h3 : 256 ^ (tkB m r).length ≤ 256 ^ 4 := Nat.pow_le_pow_right (by decide) h2
  omega
theorem FrRow.cell {w : World} {g : Nat} {ep gen k n : Int} {b : ByteArray} (h : FrRow w g ep gen k n b) : w.cell? ⟨g, 4, none⟩ = some (.string b) := cell_of_row w g 4 _ _ _ h
theorem FrRow.froz {w : World} {g : Nat} {ep gen k n : Int} {b : ByteArray} (h : FrRow w g ep gen k n b) (i : Nat) : w.frozen? ⟨g, i, none⟩ = false := frozen_of_row w g i _ _ h
theorem FrRow.body {w : World} {g : Nat} {ep gen k n : Int} {b : ByteArray} (h : FrRow w g ep gen k n b) (b' : ByteArray) : FrRow (w.setCell ⟨g, 4, none⟩ (.string b')) g ep gen k n b' := heap_setCell_same w g 4 _ _ _ h
theorem FrRow.lt {w : World} {g : Nat} {ep gen k n : Int} {b : ByteArray} (h : FrRow w g ep gen k n b) : g < w.heap.size := (Array.getElem?_eq_some_iff.1 h).1
structure FrR where
  ep : Nat
  gen : Nat
  k : Nat
  n : Nat
  body : List UInt8
  ok : Bool
/-- What is read of a frame's text. -/
def stepsF (T : List UInt8) : FrR :=
  let r1 := drB 4 T
  let r2 := drB 4 r1
  let r3 := drB 4 r2
  let r4 := drB 1 r3
  let r5 := drB 1 r4
  let r6 := drB 4 r5
  let L := beN (tkB 4 r5)
  let r7 := drB L r6
  let b7 := badB L r6 (badB 4 r5 (badB 1 r4 (badB 1 r3 (badB 4 r2 (badB 4 r1 (tkB 4 T != [109, 97, 110, 49]))))))
  { ep := beN (tkB 4 r1), gen := beN (tkB 4 r2), k := beN (tkB 1 r3), n := beN (tkB 1 r4), body := tkB L r6, ok := !b7 && r7.length == 0 && mayF (beN (tkB 4 r1)) (beN (tkB 4 r2)) (beN (tkB 1 r3)) (beN (tkB 1 r4)) }
def sizeOk (d : List UInt8) : Bool := decide (32 ≤ d.length) && decide (d.length ≤ 65536)
def textOf (d : List UInt8) : List UInt8 := d.take (d.length - 32)
def sealOk (d : List UInt8) : Bool := SH.sumB (textOf d) == d.drop (d.length - 32)
def readOk (d : List UInt8) : Bool := sizeOk d && sealOk d && (stepsF (textOf d)).ok
def readF (d : List UInt8) : Value × Int :=
  if readOk d then (frV (stepsF (textOf d)).ep (stepsF (textOf d)).gen (stepsF (textOf d)).k (stepsF (textOf d)).n (strB (stepsF (textOf d)).body), 0) else (frV 0 0 0 0 ⟨#[]⟩, 4)
def read2 (d : ByteArray) (T U : List UInt8) (nn : Nat) (ne : Bool) : Nat → Value → Prop
  | i, v => v = ([.int .i64 (nn : Int), .bool false, .bool false, .string d, .int .i64 (d.size : Int), .bool false, .bool false, .bool false, .string d, .int .i64 (nn : Int), .string (strB T), .string (strB (SH.sumB T)), .string d, .int .i64 (nn : Int), .string (strB U), .bool (!ne), .bool (!ne)] : List Value).getD i undef
def read9 (r5 : List UInt8) (b5 b6 b7 N9 : Nat) : Nat → Value → Prop
  | 3, v => ∃ p q, v = .slice p (tkB (beN (tkB 4 r5)) (drB 4 r5)).length q
  | i, v => v = ([.func (.func 46) #[] #[.pointer (some ⟨b5, 0, none⟩), .pointer (some ⟨b6, 0, none⟩)], .func (.func 47) #[] #[.pointer (some ⟨b7, 0, none⟩)], .int .i64 ((beN (tkB 4 r5)) : Int), undef, .string (strB (tkB (beN (tkB 4 r5)) (drB 4 r5))), .pointer (some ⟨N9, 4, none⟩), undef] : List Value).getD i undef
def frI (w : World) (g b5 b6 b7 N9 : Nat) (ep gen kk mm : Int) (r5 : List UInt8) (bad5 : Bool) : Nat → (Nat → Value) → World → Prop
  | 0, _, w' => RdX w w' g b5 b6 b7 r5 bad5 ∧ FrRow w' N9 ep gen kk mm ⟨#[]⟩
  | 1, _, w' => RdX w w' g b5 b6 b7 (drB 4 r5) (badB 4 r5 bad5) ∧ FrRow w' N9 ep gen kk mm ⟨#[]⟩
  | 2, vs, w' => RdX w w' g b5 b6 b7 (drB (beN (tkB 4 r5)) (drB 4 r5)) (badB (beN (tkB 4 r5)) (drB 4 r5) (badB 4 r5 bad5)) ∧ FrRow w' N9 ep gen kk mm ⟨#[]⟩ ∧ RowAt w'.heap (vs 3) (tkB (beN (tkB 4 r5)) (drB 4 r5))
  | _, _, w' => RdX w w' g b5 b6 b7 (drB (beN (tkB 4 r5)) (drB 4 r5)) (badB (beN (tkB 4 r5)) (drB 4 r5) (badB 4 r5 bad5)) ∧ FrRow w' N9 ep gen kk mm (strB (tkB (beN (tkB 4 r5)) (drB 4 r5)))
theorem frI_c7 {w : World} {g b5 b6 b7 N9 : Nat} {ep gen kk mm : Int} {r5 : List UInt8} {bad5 : Bool} {s : Nat} {vs : Nat → Value} {w' : World} (h : frI w g b5 b6 b7 N9 ep gen kk mm r5 bad5 s vs w') : w'.cell? ⟨b7, 0, none⟩ = some (fnV b5 b6) :=
  match s, h with
  | 0, h => h.1.c7
  | 1, h => h.1.c7
  | 2, h => h.1.c7
  | _ + 3, h => h.1.c7
theorem frI_upd {w : World} {g b5 b6 b7 N9 : Nat} {ep gen kk mm : Int} {r5 : List UInt8} {bad5 : Bool} {s i : Nat} {vs : Nat → Value} {v : Value} {w' : World} (h : frI w g b5 b6 b7 N9 ep gen kk mm r5 bad5 s vs w') (hi : 3 ≠ i) : frI w g b5 b6 b7 N9 ep gen kk mm r5 bad5 s (upd vs i v) w' :=
  match s, h with
  | 0, h => h
  | 1, h => h
  | 2, h => ⟨h.1, h.2.1, by rw [upd_other _ _ hi]; exact h.2.2⟩
  | _ + 3, h => h
set_option maxRecDepth 100000 in
set_option maxHeartbeats 4000000 in
theorem frread_any (d : ByteArray) (w : World) (hd : d.size ≤ 9223372036854775807) : Calls Try.prog 29 #[.string d] w fun e w' => e = .returned (.tuple #[(readF d.data.toList).1, .int .i64 (readF d.data.toList).2]) ∧ Keeps w w' := by
  have HDL : Hid (d.data.toList.length = d.size) := data_size d
  obtain ⟨w1, hw1⟩ : ∃ w1, w1 = w.alloc (.cells (frA 0 0 0 0 ⟨#[]⟩) 47) := ⟨_, rfl⟩
  have HR1 : Hid (w1.heap[w.heap.size]? = some (.cells (frA 0 0 0 0 ⟨#[]⟩) 47 (0, 0))) := by show _ = _; rw [hw1]; exact heap_alloc_new w _
  have HK1 : Hid (Keeps w w1) := by rw [hw1]; exact kal _ _
  have HN1 : Hid (w1.heap.size = w.heap.size + 1) := by show _ = _; rw [hw1]; simp
  unfold frA at hw1
  go_enter Try.func29, Try.ntmps29
  by_cases h32 : d.size < 32
  · have HF : Hid (readF d.data.toList = (frV 0 0 0 0 ⟨#[]⟩, 4)) := by
      show _ = _
      unfold readF readOk sizeOk
      rw [HDL.out, decide_eq_false (by omega)]; rfl
    have g1 : (d.size : Int) - 32 < 0 := by omega
    have g2 : decide ((d.size : Int) - 32 < 0) = true := decide_eq_true g1
    go_wp2_with fail
    rw [← hw1]
    clear hw1
    go_quiet (fail)
    go_wp2_with (refine wpList_store_row rfl 47 (.tmp 2) (.tmp 30) rfl w.heap.size (frA 0 0 0 0 ⟨#[]⟩) rfl rfl 47 _ HR1.out (by kernel_rfl) rfl (frA_one 0 0 0 0 ⟨#[]⟩) ?_)
    go_wp2_with fail
    exact bodyPost_ret (fr_results rfl _ _ w.heap.size 0 0 0 0 ⟨#[]⟩ rfl (FrRow.set (w := w1.drewN _) HR1.out 0 0 0 0 ⟨#[]⟩)) rfl ⟨by rw [HF.out]; rfl, (Chg.setRow (T := fun b => w.heap.size ≤ b) (w := w1.drewN _) (Kept.any HK1.out) (fun h => absurd h (by omega)) _).keeps fun b h1 h2 => by omega⟩
  · by_cases hbig : 65536 < d.size
    · have HF : Hid (readF d.data.toList = (frV 0 0 0 0 ⟨#[]⟩, 4)) := by
        show _ = _
        unfold readF readOk sizeOk
        rw [HDL.out, decide_eq_false (show ¬ d.size ≤ 65536 by omega)]; simp
      have g1 : ¬ ((d.size : Int) - 32 < 0) := by omega
      have g2 : decide ((d.size : Int) - 32 < 0) = false := decide_eq_false g1
      have g3 : (65536 : Int) < (d.size : Int) := by omega
      have g4 : decide ((65536 : Int) < (d.size : Int)) = true := decide_eq_true g3
      go_wp2_with fail
      rw [← hw1]
      clear hw1
      go_quiet (fail)
      go_wp2_with (refine wpList_store_row rfl 47 (.tmp 2) (.tmp 30) rfl w.heap.size (frA 0 0 0 0 ⟨#[]⟩) rfl rfl 47 _ HR1.out (by kernel_rfl) rfl (frA_one 0 0 0 0 ⟨#[]⟩) ?_)
      go_wp2_with fail
      exact bodyPost_ret (fr_results rfl _ _ w.heap.size 0 0 0 0 ⟨#[]⟩ rfl (FrRow.set (w := w1.drewN _) HR1.out 0 0 0 0 ⟨#[]⟩)) rfl ⟨by rw [HF.out]; rfl, (Chg.setRow (T := fun b => w.heap.size ≤ b) (w := w1.drewN _) (Kept.any HK1.out) (fun h => absurd h (by omega)) _).keeps fun b h1 h2 => by omega⟩
    · obtain ⟨nn, hnn⟩ : ∃ nn : Nat, d.size = nn + 32 := ⟨d.size - 32, by omega⟩
      have HNN := Lib.hid hnn
      have HN0 : Hid ((d.size : Int) - 32 = (nn : Int)) := by show _ = _; omega
      have hnb : nn ≤ 65504 := by omega
      have HTX : Hid (textOf d.data.toList = d.data.toList.take nn) := by show _ = _; unfold textOf; rw [HDL.out, hnn, Nat.add_sub_cancel]
      have HSO : Hid (sealOk d.data.toList = (SH.sumB (d.data.toList.take nn) == d.data.toList.drop nn)) := by show _ = _; unfold sealOk; rw [HTX.out, HDL.out, hnn, Nat.add_sub_cancel]
      have HZO : Hid (sizeOk d.data.toList = true) := by show _ = _; unfold sizeOk; rw [HDL.out, decide_eq_true (by omega), decide_eq_true (by omega)]; rfl
      have R1 := Lib.hid (str_front d nn (by omega))
      have R2 := Lib.hid (str_back d nn (by omega))
      have HSM := Lib.hid (fun wx => ssum_any (strB (d.data.toList.take nn)) wx (by rw [strB_size, List.length_take]; omega))
      have eT : (strB (d.data.toList.take nn)).data.toList = d.data.toList.take nn := rfl
      rw [eT] at HSM
      have HTL : Hid ((d.data.toList.take nn).length = nn) := by show _ = _; rw [List.length_take, HDL.out]; omega
      clear eT hnn
      have hds : d.size ≤ 65536 := by omega
      have gd : decide ((65536 : Int) < (d.size : Int)) = false := decide_eq_false (by omega)
      have hds2 : 32 ≤ d.size := by omega
      have HT1 : Hid (((strB (SH.sumB (d.data.toList.take nn))).toList == (strB (d.data.toList.drop nn)).toList) = sealOk d.data.toList) := by show _ = _; rw [HSO.out, strB_toList, strB_toList]
      generalize hX : d.data.toList.take nn = T at *
      generalize hU : d.data.toList.drop nn = U at *
      have HRO : Hid (readOk d.data.toList = (sealOk d.data.toList && (stepsF T).ok)) := by
        show _ = _
        unfold readOk
        rw [HZO.out, HTX.out]; rfl
      have HRF : Hid (readF d.data.toList = if readOk d.data.toList then (frV (stepsF T).ep (stepsF T).gen (stepsF T).k (stepsF T).n (strB (stepsF T).body), 0) else (frV 0 0 0 0 ⟨#[]⟩, 4)) := by
        show _ = _
        unfold readF
        rw [HTX.out]
      generalize sealOk d.data.toList = ne at *
      clear hX hU hd hbig h32 HZO HSO HTX
      go_wp2_with fail
      rw [← hw1, HN0.out]
      clear hw1
      refine wp_region_stage [13, 14, 15, 16, 17, 18, 19, 20, 21, 22, 23, 24, 25, 26, 27, 28, 29] [[], [0], [1], [2], [2, 3], [2, 4], [2, 5], [6], [7], [7], [7, 8, 9], [7, 10], [7], [7], [7, 12, 13], [7, 11, 14], [7, 15]] [] [0, 0, 0, 0, 0, 0, 0, 0, 0, 0, 0, 0, 0, 0, 0, 0, 0] [] (fun i v _ => read2 d T U nn ne i v) (fun _ _ => True) (fun _ _ w' => Keeps w1 w') (by kernel_rfl) (by kernel_rfl) (by kernel_rfl) (by kernel_rfl) (by kernel_rfl) (by kernel_rfl) (by kernel_rfl) ?_ ?_ ?_ ?_ ?_ ?_ ?_
      · exact fun _ _ _ _ _ h => h
      · exact fun _ => trivial
      · exact fun i s vs w h => by cases h
      · refine ⟨?_, ?_, ?_, ?_, ?_, ?_, ?_, ?_, ?_, ?_, ?_, ?_, ?_, ?_, ?_, ?_, ?_, trivial⟩
        · exact fun g b h => by (cases h)
        · exact fun g b h => by (cases h)
        · exact fun g b h => by (cases h)
        · exact fun g b h => by (cases h; exact ⟨by decide, fun v w h => h⟩)
        · exact fun g b h => by (cases h; exact ⟨by decide, fun v w h => h⟩)
        · exact fun g b h => by (cases h; exact ⟨by decide, fun v w h => h⟩)
        · exact fun g b h => by (cases h)
        · exact fun g b h => by (cases h)
        · exact fun g b h => by (cases h; exact ⟨by decide, fun v w h => h⟩)
        · exact fun g b h => by (cases h; exact ⟨by decide, fun v w h => h⟩)
        · exact fun g b h => by (cases h; exact ⟨by decide, fun v w h => h⟩)
        · exact fun g b h => by (cases h; exact ⟨by decide, fun v w h => h⟩)
        · exact fun g b h => by (cases h; exact ⟨by decide, fun v w h => h⟩)
        · exact fun g b h => by (cases h; exact ⟨by decide, fun v w h => h⟩)
        · exact fun g b h => by (cases h; exact ⟨by decide, fun v w h => h⟩)
        · exact fun g b h => by (cases h; exact ⟨by decide, fun v w h => h⟩)
        · exact fun g b h => by (cases h)
      · exact fun _ _ => keeps_refl w1
      · refine ⟨?_, ?_, ?_, ?_, ?_, ?_, ?_, ?_, ?_, ?_, ?_, ?_, ?_, ?_, ?_, ?_, ?_, trivial⟩
        · intro _ a w1 vs hI ho hn hu K hK
          have e4 : a.tmps[4]? = some (.int .i64 (nn : Int)) := ho 4 rfl
          clear hn ho hu
          go_simp
          exact hK _ _ trivial hI rfl
        · intro _ a w1 vs hI ho hn hu K hK
          obtain ⟨e13, g13⟩ : a.tmps[13]? = some (vs 0) ∧ vs 0 = .int .i64 (nn : Int) := hn 0 (by decide)
          rw [g13] at e13
          clear g13
          clear hn ho hu
          go_simp
          exact hK _ _ trivial hI rfl
        · intro _ a w1 vs hI ho hn hu K hK
          obtain ⟨e14, g14⟩ : a.tmps[14]? = some (vs 1) ∧ vs 1 = .bool false := hn 1 (by decide)
          rw [g14] at e14
          clear g14
          clear hn ho hu
          go_simp
          exact hK _ _ trivial hI rfl
        · intro _ a w1 vs hI ho hn hu K hK
          have e0 : a.tmps[0]? = some (.string d) := ho 0 rfl
          clear hn ho hu
          go_simp
          exact hK _ _ trivial hI rfl
        · intro _ a w1 vs hI ho hn hu K hK
          obtain ⟨e16, g16⟩ : a.tmps[16]? = some (vs 3) ∧ vs 3 = .string d := hn 3 (by decide)
          rw [g16] at e16
          clear g16
          clear hn ho hu
          go_simp
          exact hK _ _ trivial hI rfl
        · intro _ a w1 vs hI ho hn hu K hK
          obtain ⟨e17, g17⟩ : a.tmps[17]? = some (vs 4) ∧ vs 4 = .int .i64 (d.size : Int) := hn 4 (by decide)
          rw [g17] at e17
          clear g17
          clear hn ho hu
          go_simp
          exact hK _ _ trivial hI rfl
        · intro _ a w1 vs hI ho hn hu K hK
          obtain ⟨e15, g15⟩ : a.tmps[15]? = some (vs 2) ∧ vs 2 = .bool false := hn 2 (by decide)
          rw [g15] at e15
          clear g15
          obtain ⟨e18, g18⟩ : a.tmps[18]? = some (vs 5) ∧ vs 5 = .bool false := hn 5 (by decide)
          rw [g18] at e18
          clear g18
          clear hn ho hu
          go_simp
          exact hK _ _ trivial hI rfl
        · intro _ a w1 vs hI ho hn hu K hK
          obtain ⟨e19, g19⟩ : a.tmps[19]? = some (vs 6) ∧ vs 6 = .bool false := hn 6 (by decide)
          rw [g19] at e19
          clear g19
          clear hn ho hu
          go_simp
          exact hK _ _ trivial hI rfl
        · intro _ a w1 vs hI ho hn hu K hK
          have e0 : a.tmps[0]? = some (.string d) := ho 0 rfl
          clear hn ho hu
          go_simp
          exact hK _ _ trivial hI rfl
        · intro _ a w1 vs hI ho hn hu K hK
          have e4 : a.tmps[4]? = some (.int .i64 (nn : Int)) := ho 4 rfl
          clear hn ho hu
          go_simp
          exact hK _ _ trivial hI rfl
        · intro _ a w1 vs hI ho hn hu K hK
          obtain ⟨e21, g21⟩ : a.tmps[21]? = some (vs 8) ∧ vs 8 = .string d := hn 8 (by decide)
          rw [g21] at e21
          clear g21
          obtain ⟨e22, g22⟩ : a.tmps[22]? = some (vs 9) ∧ vs 9 = .int .i64 (nn : Int) := hn 9 (by decide)
          rw [g22] at e22
          clear g22
          clear hn ho hu
          have c := R1.out
          go_simp
          exact hK _ _ trivial hI rfl
        · intro _ a w1 vs hI ho hn hu K hK
          obtain ⟨e23, g23⟩ : a.tmps[23]? = some (vs 10) ∧ vs 10 = .string (strB T) := hn 10 (by decide)
          rw [g23] at e23
          clear g23
          clear hn ho hu
          go_simp
          refine Calls.mono (HSM.out _) ?_
          rintro e w' ⟨rfl, hk2⟩
          go_simp
          exact hK _ _ trivial (Keeps.trans hI hk2) rfl
        · intro _ a w1 vs hI ho hn hu K hK
          have e0 : a.tmps[0]? = some (.string d) := ho 0 rfl
          clear hn ho hu
          go_simp
          exact hK _ _ trivial hI rfl
        · intro _ a w1 vs hI ho hn hu K hK
          have e4 : a.tmps[4]? = some (.int .i64 (nn : Int)) := ho 4 rfl
          clear hn ho hu
          go_simp
          exact hK _ _ trivial hI rfl
        · intro _ a w1 vs hI ho hn hu K hK
          obtain ⟨e25, g25⟩ : a.tmps[25]? = some (vs 12) ∧ vs 12 = .string d := hn 12 (by decide)
          rw [g25] at e25
          clear g25
          obtain ⟨e26, g26⟩ : a.tmps[26]? = some (vs 13) ∧ vs 13 = .int .i64 (nn : Int) := hn 13 (by decide)
          rw [g26] at e26
          clear g26
          clear hn ho hu
          have c := R2.out
          go_simp
          exact hK _ _ trivial hI rfl
        · intro _ a w1 vs hI ho hn hu K hK
          obtain ⟨e24, g24⟩ : a.tmps[24]? = some (vs 11) ∧ vs 11 = .string (strB (SH.sumB T)) := hn 11 (by decide)
          rw [g24] at e24
          clear g24
          obtain ⟨e27, g27⟩ : a.tmps[27]? = some (vs 14) ∧ vs 14 = .string (strB U) := hn 14 (by decide)
          rw [g27] at e27
          clear g27
          clear hn ho hu
          have c := HT1.out
          go_simp
          first | exact hK _ _ trivial hI rfl | (rw [HT1.out]; exact hK _ _ trivial hI rfl)
        · intro _ a w1 vs hI ho hn hu K hK
          obtain ⟨e20, g20⟩ : a.tmps[20]? = some (vs 7) ∧ vs 7 = .bool false := hn 7 (by decide)
          rw [g20] at e20
          clear g20
          obtain ⟨e28, g28⟩ : a.tmps[28]? = some (vs 15) ∧ vs 15 = .bool (!ne) := hn 15 (by decide)
          rw [g28] at e28
          clear g28
          clear hn ho hu
          go_simp
          exact hK _ _ trivial hI rfl
      · intro vs w4 hI hG
        have eL : vs 16 = .bool (!ne) := hG 16 (by decide)
        have HK4 := Lib.hid (HK1.out.trans hI)
        have HR4 : Hid (FrRow w4 w.heap.size 0 0 0 0 ⟨#[]⟩) := FrRow.chg (T := fun _ => False) HR1.out (Kept.any hI) (fun x => x)
        clear hG hI
        simp only [setAll, Nat.zero_add, Nat.reduceAdd, List.setIfInBounds_toArray, List.set_cons_zero, List.set_cons_succ, eL]
        clear eL HSM
        generalize vs 0 = y0 at *
        generalize vs 1 = y1 at *
        generalize vs 2 = y2 at *
        generalize vs 3 = y3 at *
        generalize vs 4 = y4 at *
        generalize vs 5 = y5 at *
        generalize vs 6 = y6 at *
        generalize vs 7 = y7 at *
        generalize vs 8 = y8 at *
        generalize vs 9 = y9 at *
        generalize vs 10 = y10 at *
        generalize vs 11 = y11 at *
        generalize vs 12 = y12 at *
        generalize vs 13 = y13 at *
        generalize vs 14 = y14 at *
        generalize vs 15 = y15 at *
        cases ne with
        | false =>
          have HF : Hid (readF d.data.toList = (frV 0 0 0 0 ⟨#[]⟩, 4)) := by show _ = _; rw [HRF.out, HRO.out]; rfl
          clear HRF HRO HT1
          go_wp2_with (refine wpList_store_row rfl 47 (.tmp 2) (.tmp 30) rfl w.heap.size (frA 0 0 0 0 ⟨#[]⟩) rfl rfl 47 _ HR4.out (by kernel_rfl) rfl (frA_one 0 0 0 0 ⟨#[]⟩) ?_)
          go_wp2_with fail
          exact bodyPost_ret (fr_results rfl _ _ w.heap.size 0 0 0 0 ⟨#[]⟩ rfl (FrRow.set (w := w4) HR4.out 0 0 0 0 ⟨#[]⟩)) rfl ⟨by rw [HF.out]; rfl, (Chg.setRow (T := fun b => w.heap.size ≤ b) (w := w4) (Kept.any HK4.out) (fun h => absurd h (by omega)) _).keeps fun b h1 h2 => by omega⟩
        | true =>
          clear HT1
          have r1 := R1.out
          have fst := store_func
          have sT : (strB T).size ≤ 65504 := by rw [strB_size, HTL.out]; exact hnb
          go_wp2_with (refine wp_bytes rfl 9 59 (.tmp 33) rfl (strB T) rfl Try.underlying9 Try.underlying59 Try.underlying5 (by omega) ?_; intro c w5 hc hrow hk5)
          have hlt : w.heap.size < w5.heap.size := Nat.lt_of_lt_of_le (FrRow.lt HR4.out) hk5.size
          obtain ⟨wz, hwz⟩ : ∃ wz, wz = ((w5.alloc (.cells #[.slice (some ⟨w4.heap.size, 0, none⟩) (strB T).size c] 59)).alloc (.cells #[.bool false] 4)).alloc (.cells #[fnV w5.heap.size (w5.heap.size + 1)] 83) := ⟨_, rfl⟩
          have HZ : Hid (RdX w wz w.heap.size w5.heap.size (w5.heap.size + 1) (w5.heap.size + 1 + 1) T false) := rdx_new hwz hrow hc hk5 HR4.out HK4.out
          unfold fnV at hwz
          rw [← hwz]
          clear hwz hrow hc hk5 HR4 HK4 fst HN1 HR1 HK1
          generalize hb5 : w5.heap.size = b5 at *
          generalize hb6 : b5 + 1 = b6 at *
          generalize hb7 : b6 + 1 = b7 at *
          have hne : b5 ≠ b6 := by omega
          have N7 : Hid (b7 ≠ b5 ∧ b7 ≠ b6) := ⟨by omega, by omega⟩
          have NG : Hid (w.heap.size ≠ b5 ∧ w.heap.size ≠ b6) := ⟨by omega, by omega⟩
          have N0 : Hid (w.heap.size ≤ b5 ∧ w.heap.size ≤ b6) := ⟨by omega, by omega⟩
          refine Calls.mono (frtake_x 4 b5 b6 T false wz HZ.out.rd hne (by omega)) ?_
          rintro e wa ⟨v, rfl, hs, hv, hch⟩
          have HA : Hid (RdX w wa w.heap.size b5 b6 b7 (drB 4 T) (badB 4 T false)) := HZ.out.step hs hch N7.out NG.out N0.out
          have HV : Hid (RowAt wa.heap v (tkB 4 T)) := hv.1
          obtain ⟨pv, qv, rfl⟩ := seq_shape hv.1
          have hcv := conv_row (P := Try.prog) (src := 59) (dst := 9) (e := 5) Try.underlying59 (by kernel_rfl) Try.underlying9 hv.1
          clear hs hv hch HZ
          have c6 := HA.out.rd.c6
          have f6 := HA.out.rd.f6
          have HB1 : Hid ((!((strB (tkB 4 T)).toList == [109, 97, 110, 49])) = (tkB 4 T != [109, 97, 110, 49])) := by show _ = _; rw [strB_toList]; rfl
          have HX : Hid (RdX w (wa.setCell ⟨b6, 0, none⟩ (.bool (tkB 4 T != [109, 97, 110, 49]))) w.heap.size b5 b6 b7 (drB 4 T) (tkB 4 T != [109, 97, 110, 49])) := HA.out.step (rds_set6 HA.out.rd hne _) (Chg.setCell (Chg.refl _ wa) (p := ⟨b6, 0, none⟩) (fun _ => .inr rfl) _) N7.out NG.out N0.out
          generalize hk1 : (tkB 4 T != [109, 97, 110, 49]) = bad1 at *
          have HK1 := Lib.hid hk1
          clear hk1 HA HV
          go_wp2_with fail
          rw [HB1.out]
          clear hcv c6 f6 HB1
          refine Calls.mono (frcount_x 4 b5 b6 b7 _ _ _ HX.out.rd hne (by omega) HX.out.c7) ?_
          rintro e wb ⟨rfl, hs, hch⟩
          have HX := Lib.hid (HX.out.step hs hch N7.out NG.out N0.out)
          clear hs hch
          go_wp2_with fail
          refine Calls.mono (frcount_x 4 b5 b6 b7 _ _ _ HX.out.rd hne (by omega) HX.out.c7) ?_
          rintro e wb ⟨rfl, hs, hch⟩
          have HX := Lib.hid (HX.out.step hs hch N7.out NG.out N0.out)
          clear hs hch
          go_wp2_with fail
          refine Calls.mono (frcount_x 1 b5 b6 b7 _ _ _ HX.out.rd hne (by omega) HX.out.c7) ?_
          rintro e wb ⟨rfl, hs, hch⟩
          have HX := Lib.hid (HX.out.step hs hch N7.out NG.out N0.out)
          clear hs hch
          go_wp2_with fail
          refine Calls.mono (frcount_x 1 b5 b6 b7 _ _ _ HX.out.rd hne (by omega) HX.out.c7) ?_
          rintro e wb ⟨rfl, hs, hch⟩
          have HX := Lib.hid (HX.out.step hs hch N7.out NG.out N0.out)
          clear hs hch
          have HST : Hid (stepsF T = { ep := beN (tkB 4 (drB 4 T)), gen := beN (tkB 4 (drB 4 (drB 4 T))), k := beN (tkB 1 (drB 4 (drB 4 (drB 4 T)))), n := beN (tkB 1 (drB 1 (drB 4 (drB 4 (drB 4 T))))), body := tkB (beN (tkB 4 (drB 1 (drB 1 (drB 4 (drB 4 (drB 4 T))))))) (drB 4 (drB 1 (drB 1 (drB 4 (drB 4 (drB 4 T)))))), ok := !(badB (beN (tkB 4 (drB 1 (drB 1 (drB 4 (drB 4 (drB 4 T))))))) (drB 4 (drB 1 (drB 1 (drB 4 (drB 4 (drB 4 T)))))) (badB 4 (drB 1 (drB 1 (drB 4 (drB 4 (drB 4 T))))) (badB 1 (drB 1 (drB 4 (drB 4 (drB 4 T)))) (badB 1 (drB 4 (drB 4 (drB 4 T))) (badB 4 (drB 4 (drB 4 T)) (badB 4 (drB 4 T) (tkB 4 T != [109, 97, 110, 49]))))))) && (drB (beN (tkB 4 (drB 1 (drB 1 (drB 4 (drB 4 (drB 4 T))))))) (drB 4 (drB 1 (drB 1 (drB 4 (drB 4 (drB 4 T))))))).length == 0 && mayF (beN (tkB 4 (drB 4 T))) (beN (tkB 4 (drB 4 (drB 4 T)))) (beN (tkB 1 (drB 4 (drB 4 (drB 4 T))))) (beN (tkB 1 (drB 1 (drB 4 (drB 4 (drB 4 T)))))) }) := rfl
          rw [HK1.out] at HST
          generalize hr1 : drB 4 T = r1 at *
          generalize hr2 : drB 4 r1 = r2 at *
          generalize hr3 : drB 4 r2 = r3 at *
          generalize hr4 : drB 1 r3 = r4 at *
          generalize hr5 : drB 1 r4 = r5 at *
          generalize badB 1 r4 (badB 1 r3 (badB 4 r2 (badB 4 r1 bad1))) = bad5 at *
          generalize beN (tkB 4 r1) = ep at *
          generalize beN (tkB 4 r2) = gen at *
          generalize beN (tkB 1 r3) = kk at *
          generalize beN (tkB 1 r4) = mm at *
          have hL := tk_lt 4 r5 (by omega)
          have HN9 : Hid (b5 < wb.heap.size ∧ b6 < wb.heap.size ∧ w.heap.size < wb.heap.size ∧ b7 < wb.heap.size) := ⟨typH_lt HX.out.rd.t5, typH_lt HX.out.rd.t6, HX.out.fr.lt, cell_lt HX.out.c7⟩
          clear hr1 hr2 hr3 hr4 hr5 HK1
          go_wp2_with fail
          refine (fun (h : ∀ wq : World, RdX w wq w.heap.size b5 b6 b7 r5 bad5 → FrRow wq wb.heap.size ep gen kk mm ⟨#[]⟩ → Code.wp _ _ _ _ wq) => h _ (by exact HX.out.keeps (kal _ _)) (by exact heap_alloc_new wb _)) ?_
          intro wq hxq hfq
          have HX := Lib.hid hxq
          have HFR := Lib.hid hfq
          clear hxq hfq
          have N95 : Hid (wb.heap.size ≠ b5 ∧ wb.heap.size ≠ b6) := ⟨by have := HN9.out; omega, by have := HN9.out; omega⟩
          have N9g : Hid (wb.heap.size ≠ w.heap.size ∧ w.heap.size ≤ wb.heap.size) := ⟨by have := HN9.out; omega, by have := HN9.out; omega⟩
          have N97 : Hid (wb.heap.size ≠ b7) := by show _ ≠ _; have := HN9.out; omega
          clear HN9
          generalize wb.heap.size = N9 at *
          rename_i hcont
          refine wp_region_stageF [52, 53, 54, 55, 56, 57, 10006] [[], [], [1], [0, 2], [3], [], [4, 5]] [2, 3, 6] [0, 0, 0, 1, 2, 0, 2] [] [0, 5] [6] (fun i v _ => read9 r5 b5 b6 b7 N9 i v) (fun _ _ => True) (frI w w.heap.size b5 b6 b7 N9 ep gen kk mm r5 bad5) (by kernel_rfl) (by kernel_rfl) (by kernel_rfl) (by kernel_rfl) (by kernel_rfl) (by kernel_rfl) (by kernel_rfl) ?_ ?_ ?_ ?_ ?_ ?_ ?_
          · exact fun _ _ _ _ _ h => h
          · exact fun _ => trivial
          · exact fun i s vs w h => by cases h
          · refine ⟨?_, ?_, ?_, ?_, ?_, ?_, ?_, trivial⟩
            · exact fun g b h => by (cases h)
            · exact fun g b h => by (cases h)
            · exact fun g b h => by (cases h)
            · exact fun g b h => by (cases h)
            · exact fun g b h => by (cases h)
            · exact fun g b h => by (cases h)
            · exact fun g b h => by (cases h)
          · exact fun _ _ => ⟨HX.out.keeps (by exact keeps_refl _), HFR.out.keeps (by exact keeps_refl _)⟩
          · refine ⟨?_, ?_, ?_, ?_, ?_, ?_, ?_, trivial⟩
            · intro _ s hs a w1 vs hI ho hn hu K hK
              clear hs
              have e7 : a.tmps[7]? = some (.pointer (some ⟨b7, 0, none⟩)) := ho 7 rfl
              clear hn ho hu
              clear hcont
              have c := frI_c7 hI
              unfold fnV at c
              go_simp
              exact hK _ _ trivial (frI_upd hI (by decide)) rfl
            · intro _ s hs a w1 vs hI ho hn hu K hK
              obtain rfl : s = 0 := hs rfl
              clear hs
              have e8 : a.tmps[8]? = some (.func (.func 47) #[] #[.pointer (some ⟨b7, 0, none⟩)]) := ho 8 rfl
              clear hn ho hu
              clear hcont
              have hI : frI w w.heap.size b5 b6 b7 N9 ep gen kk mm r5 bad5 0 vs w1 := hI
              go_simp
              exact hK _ _ trivial hI rfl
            · intro _ s hs a w1 vs hI ho hn hu K hK
              obtain rfl : s = 0 := hs rfl
              clear hs
              obtain ⟨e53, g53⟩ : a.tmps[53]? = some (vs 1) ∧ vs 1 = .func (.func 47) #[] #[.pointer (some ⟨b7, 0, none⟩)] := ⟨(hn 1 (by decide)).1 (by decide), (hn 1 (by decide)).2⟩
              rw [g53] at e53
              clear g53
              clear hn ho hu
              clear hcont
              have hI : frI w w.heap.size b5 b6 b7 N9 ep gen kk mm r5 bad5 0 vs w1 := hI
              go_simp
              refine Calls.mono (frcount_x 4 b5 b6 b7 r5 bad5 _ hI.1.rd hne (by omega) hI.1.c7) ?_
              rintro e w' ⟨rfl, hs, hch⟩
              go_simp
              exact hK _ _ trivial ⟨RdX.step hI.1 hs hch N7.out NG.out N0.out, FrRow.chg hI.2 hch (by have := N95.out; omega)⟩ rfl
            · intro _ s hs a w1 vs hI ho hn hu K hK
              obtain rfl : s = 1 := hs rfl
              clear hs
              obtain ⟨e52, g52⟩ : a.tmps[52]? = some (vs 0) ∧ vs 0 = .func (.func 46) #[] #[.pointer (some ⟨b5, 0, none⟩), .pointer (some ⟨b6, 0, none⟩)] := ⟨(hn 0 (by decide)).1 (by decide), (hn 0 (by decide)).2⟩
              rw [g52] at e52
              clear g52
              obtain ⟨e54, g54⟩ : a.tmps[54]? = some (vs 2) ∧ vs 2 = .int .i64 ((beN (tkB 4 r5)) : Int) := ⟨(hn 2 (by decide)).1 (by decide), (hn 2 (by decide)).2⟩
              rw [g54] at e54
              clear g54
              clear hn ho hu
              clear hcont
              have hI : frI w w.heap.size b5 b6 b7 N9 ep gen kk mm r5 bad5 1 vs w1 := hI
              go_simp
              refine Calls.mono (frtake_x (beN (tkB 4 r5)) b5 b6 (drB 4 r5) (badB 4 r5 bad5) _ hI.1.rd hne (by omega)) ?_
              rintro e w' ⟨vb, rfl, hs, hv, hch⟩
              go_simp
              exact hK _ _ trivial ⟨RdX.step hI.1 hs hch N7.out NG.out N0.out, FrRow.chg hI.2 hch (by have := N95.out; omega), hv.1⟩ (seq_shape hv.1)
            · intro _ s hs a w1 vs hI ho hn hu K hK
              obtain rfl : s = 2 := hs rfl
              clear hs
              obtain ⟨e55, g55⟩ : a.tmps[55]? = some (vs 3) ∧ ∃ p q, (vs 3) = .slice p (tkB (beN (tkB 4 r5)) (drB 4 r5)).length q := ⟨(hn 3 (by decide)).1 (by decide), (hn 3 (by decide)).2⟩
              clear hn ho hu
              clear hcont
              have hI : frI w w.heap.size b5 b6 b7 N9 ep gen kk mm r5 bad5 2 vs w1 := hI
              obtain ⟨p, q, e9⟩ := g55
              have hr : RowAt w1.heap (vs 3) (tkB (beN (tkB 4 r5)) (drB 4 r5)) := hI.2.2
              rw [e9] at e55 hr
              have hcv := conv_row (P := Try.prog) (src := 59) (dst := 9) (e := 5) Try.underlying59 (by kernel_rfl) Try.underlying9 hr
              go_simp
              exact hK _ _ trivial hI rfl
            · intro _ s hs a w1 vs hI ho hn hu K hK
              clear hs
              have e9 : a.tmps[9]? = some (.pointer (some ⟨N9, 0, none⟩)) := ho 9 rfl
              clear hn ho hu
              clear hcont
              go_simp
              exact hK _ _ trivial (frI_upd hI (by decide)) rfl
            · intro _ s hs a w1 vs hI ho hn hu K hK
              obtain rfl : s = 2 := hs rfl
              clear hs
              obtain ⟨e56, g56⟩ : a.tmps[56]? = some (vs 4) ∧ vs 4 = .string (strB (tkB (beN (tkB 4 r5)) (drB 4 r5))) := ⟨(hn 4 (by decide)).1 (by decide), (hn 4 (by decide)).2⟩
              rw [g56] at e56
              clear g56
              obtain ⟨e57, g57⟩ : a.tmps[57]? = some (vs 5) ∧ vs 5 = .pointer (some ⟨N9, 4, none⟩) := ⟨(hn 5 (by decide)).1 (by decide), (hn 5 (by decide)).2⟩
              rw [g57] at e57
              clear g57
              clear hn ho hu
              clear hcont
              have hI : frI w w.heap.size b5 b6 b7 N9 ep gen kk mm r5 bad5 2 vs w1 := hI
              have c := hI.2.1.cell
              have f := hI.2.1.froz 4
              go_simp
              exact hK undef _ trivial ⟨RdX.other hI.1 hI.2.1 (Chg.setCell (T := fun y => y = N9) (Chg.refl _ _) (p := ⟨N9, 4, none⟩) (fun _ => rfl) _) N95.out N97.out N9g.out, hI.2.1.body _⟩ rfl
          intro vs ws hI hG
          obtain ⟨hxs, hfs⟩ : RdX w ws w.heap.size b5 b6 b7 (drB (beN (tkB 4 r5)) (drB 4 r5)) (badB (beN (tkB 4 r5)) (drB 4 r5) (badB 4 r5 bad5)) ∧ FrRow ws N9 ep gen kk mm (strB (tkB (beN (tkB 4 r5)) (drB 4 r5))) := hI
          clear hG
          simp only [setAll, Nat.zero_add, Nat.reduceAdd, List.setIfInBounds_toArray, List.set_cons_zero, List.set_cons_succ, List.set_nil]
          generalize vs 0 = y0 at *
          generalize vs 1 = y1 at *
          generalize vs 2 = y2 at *
          generalize vs 3 = y3 at *
          generalize vs 4 = y4 at *
          generalize vs 5 = y5 at *
          generalize vs 6 = y6 at *
          have HX := Lib.hid hxs
          have HFR := Lib.hid hfs
          clear hxs hfs
          generalize hLL : beN (tkB 4 r5) = L at *
          generalize drB 4 r5 = r6 at *
          generalize badB 4 r5 bad5 = bad6 at *
          generalize drB L r6 = r7 at *
          generalize badB L r6 bad6 = bad7 at *
          generalize tkB L r6 = body at *
          have HOK : Hid (readOk d.data.toList = (!bad7 && r7.length == 0 && mayF ep gen kk mm)) := by show _ = _; rw [HRO.out, HST.out]; rfl
          have HFV : Hid (readF d.data.toList = if readOk d.data.toList then (frV ep gen kk mm (strB body), 0) else (frV 0 0 0 0 ⟨#[]⟩, 4)) := by show _ = _; rw [HRF.out, HST.out]
          clear HRO HST HRF hLL hL
          have c6 := HX.out.rd.c6
          cases bad7 with
          | true =>
            have HF : Hid (readF d.data.toList = (frV 0 0 0 0 ⟨#[]⟩, 4)) := by show _ = _; rw [HFV.out, HOK.out]; rfl
            clear HFV HOK
            go_wp2_with (refine wpList_store_row rfl 47 (.tmp 2) (.tmp 69) rfl w.heap.size (frA 0 0 0 0 ⟨#[]⟩) rfl rfl 47 _ HX.out.fr (by kernel_rfl) rfl (frA_one 0 0 0 0 ⟨#[]⟩) ?_)
            go_wp2_with fail
            exact bodyPost_ret (fr_results rfl _ _ w.heap.size 0 0 0 0 ⟨#[]⟩ rfl (FrRow.set HX.out.fr 0 0 0 0 ⟨#[]⟩)) rfl ⟨by rw [HF.out]; rfl, (Chg.setRow (T := fun b => w.heap.size ≤ b) (Kept.any HX.out.kp) (fun h => absurd h (by omega)) _).keeps fun b h1 h2 => by omega⟩
          | false =>
          obtain ⟨gg, oo, qq, c5, -, -⟩ := HX.out.rd.row
          by_cases h7 : r7.length = 0
          · rw [h7] at c5
            have HM : Hid (readOk d.data.toList = mayF ep gen kk mm) := by show _ = _; rw [HOK.out, h7]; rfl
            have d0 : ws.cell? ⟨N9, 0, none⟩ = some (.int .i64 (ep : Int)) := cell_of_row ws N9 0 _ _ _ HFR.out
            have d1 : ws.cell? ⟨N9, 1, none⟩ = some (.int .i64 (gen : Int)) := cell_of_row ws N9 1 _ _ _ HFR.out
            have d2 : ws.cell? ⟨N9, 2, none⟩ = some (.int .i64 (kk : Int)) := cell_of_row ws N9 2 _ _ _ HFR.out
            have d3 : ws.cell? ⟨N9, 3, none⟩ = some (.int .i64 (mm : Int)) := cell_of_row ws N9 3 _ _ _ HFR.out
            have d4 : ws.cell? ⟨N9, 4, none⟩ = some (.string (strB body)) := cell_of_row ws N9 4 _ _ _ HFR.out
            have HMY := Lib.hid (frmay_any ep gen kk mm (strB body))
            unfold frV at HMY
            clear HOK h7
            go_wp2_with fail
            refine Calls.mono (HMY.out ws) ?_
            rintro e wm ⟨rfl, hk⟩
            have HX := Lib.hid (HX.out.keeps hk)
            have HFR := Lib.hid (HFR.out.keeps hk)
            clear d0 d1 d2 d3 d4 c5 c6 hk HMY
            cases hm : mayF ep gen kk mm with
            | false =>
              have HF : Hid (readF d.data.toList = (frV 0 0 0 0 ⟨#[]⟩, 4)) := by show _ = _; rw [HFV.out, HM.out, hm]; rfl
              clear HFV HM hm
              go_wp2_with (refine wpList_store_row rfl 47 (.tmp 2) (.tmp 69) rfl w.heap.size (frA 0 0 0 0 ⟨#[]⟩) rfl rfl 47 _ HX.out.fr (by kernel_rfl) rfl (frA_one 0 0 0 0 ⟨#[]⟩) ?_)
              go_wp2_with fail
              exact bodyPost_ret (fr_results rfl _ _ w.heap.size 0 0 0 0 ⟨#[]⟩ rfl (FrRow.set HX.out.fr 0 0 0 0 ⟨#[]⟩)) rfl ⟨by rw [HF.out]; rfl, (Chg.setRow (T := fun b => w.heap.size ≤ b) (Kept.any HX.out.kp) (fun h => absurd h (by omega)) _).keeps fun b h1 h2 => by omega⟩
            | true =>
              have HF : Hid (readF d.data.toList = (frV ep gen kk mm (strB body), 0)) := by show _ = _; rw [HFV.out, HM.out, hm]; rfl
              have d0 : wm.cell? ⟨N9, 0, none⟩ = some (.int .i64 (ep : Int)) := cell_of_row wm N9 0 _ _ _ HFR.out
              have d1 : wm.cell? ⟨N9, 1, none⟩ = some (.int .i64 (gen : Int)) := cell_of_row wm N9 1 _ _ _ HFR.out
              have d2 : wm.cell? ⟨N9, 2, none⟩ = some (.int .i64 (kk : Int)) := cell_of_row wm N9 2 _ _ _ HFR.out
              have d3 : wm.cell? ⟨N9, 3, none⟩ = some (.int .i64 (mm : Int)) := cell_of_row wm N9 3 _ _ _ HFR.out
              have d4 : wm.cell? ⟨N9, 4, none⟩ = some (.string (strB body)) := cell_of_row wm N9 4 _ _ _ HFR.out
              clear HFV HM hm
              go_wp2_with (refine wpList_store_row rfl 47 (.tmp 2) (.tmp 70) rfl w.heap.size (frA ep gen kk mm (strB body)) rfl rfl 47 _ HX.out.fr (by kernel_rfl) rfl (frA_one ep gen kk mm (strB body)) ?_)
              go_wp2_with fail
              exact bodyPost_ret (fr_results rfl _ _ w.heap.size ep gen kk mm (strB body) rfl (FrRow.set HX.out.fr ep gen kk mm (strB body))) rfl ⟨by rw [HF.out]; rfl, (Chg.setRow (T := fun b => w.heap.size ≤ b) (Kept.any HX.out.kp) (fun h => absurd h (by omega)) _).keeps fun b h1 h2 => by omega⟩
          · have HF : Hid (readF d.data.toList = (frV 0 0 0 0 ⟨#[]⟩, 4)) := by
              show _ = _
              rw [HFV.out, HOK.out]
              have : (r7.length == 0) = false := beq_false_of_ne h7
              rw [this]; rfl
            have g7 : (0 : Int) < (r7.length : Int) := by omega
            have g8 : decide ((0 : Int) < (r7.length : Int)) = true := decide_eq_true g7
            clear HFV HOK
            go_wp2_with (refine wpList_store_row rfl 47 (.tmp 2) (.tmp 69) rfl w.heap.size (frA 0 0 0 0 ⟨#[]⟩) rfl rfl 47 _ HX.out.fr (by kernel_rfl) rfl (frA_one 0 0 0 0 ⟨#[]⟩) ?_)
            go_wp2_with fail
            exact bodyPost_ret (fr_results rfl _ _ w.heap.size 0 0 0 0 ⟨#[]⟩ rfl (FrRow.set HX.out.fr 0 0 0 0 ⟨#[]⟩)) rfl ⟨by rw [HF.out]; rfl, (Chg.setRow (T := fun b => w.heap.size ≤ b) (Kept.any HX.out.kp) (fun h => absurd h (by omega)) _).keeps fun b h1 h2 => by omega⟩
end Go.Proofs.Ytcapalofocmmoaa
