/- The walk of the reference's Read of a frame. -/
import Derived.Test.YtcapalofocmmoaaRfAt
import Derived.Test.YtcapalofocmmoaaFrLaw
import Derived.Test.YtcapalofocmmoaaStageF
namespace Go.Proofs.Ytcapalofocmmoaa
open Go.RowKit
def RfRow (w : World) (g : Nat) (ep gen k n : Int) (b : ByteArray) : Prop := w.heap[g]? = some (.cells (frA ep gen k n b) 50 (0, 0))
def RfAny (w : World) (g : Nat) : Prop := ∃ ep gen k n b, RfRow w g ep gen k n b
theorem RfRow.set {w : World} {g : Nat} {ep gen k n : Int} {b : ByteArray} (h : RfRow w g ep gen k n b) (ep' gen' k' n' : Int) (b' : ByteArray) : RfRow (w.setRow g (frA ep' gen' k' n' b')) g ep' gen' k' n' b' := setRow_heap w g _ _ _ _ h
theorem RfRow.chg {T : Nat → Prop} {w w' : World} {g : Nat} {ep gen k n : Int} {b : ByteArray} (h : RfRow w g ep gen k n b) (c : Chg T w w') (hT : ¬ T g) : RfRow w' g ep gen k n b := (c.2.2.2.2 g (Array.getElem?_eq_some_iff.1 h).1 hT).trans h
theorem RfRow.keeps {w w' : World} {g : Nat} {ep gen k n : Int} {b : ByteArray} (h : RfRow w g ep gen k n b) (c : Keeps w w') : RfRow w' g ep gen k n b := h.chg (T := fun _ => False) (Kept.any c) (fun x => x)
theorem RfAny.keeps {w w' : World} {g : Nat} (h : RfAny w g) (c : Keeps w w') : RfAny w' g := by
  obtain ⟨a, b, c', d, e, h⟩ := h
  exact ⟨a, b, c', d, e, h.keeps c⟩
theorem RfAny.set {w : World} {g : Nat} {ep gen k n : Int} {b : ByteArray} {N : Nat} (h : RfAny w N) (hg : RfAny w g) : RfAny (w.setRow g (frA ep gen k n b)) N := by
  by_cases e : N = g
  · subst e
    obtain ⟨_, _, _, _, _, h⟩ := h
    exact ⟨_, _, _, _, _, h.set _ _ _ _ _⟩
  · obtain ⟨a, b', c, d, f, h⟩ := h
    exact ⟨a, b', c, d, f, h.chg (T := fun y => y = g) (Chg.setRow (T := fun y => y = g) (Chg.refl _ _) (fun _ => rfl) _) e⟩
set_option maxRecDepth 100000 in
theorem rf_results {fn : Func} {p u : Tmp} (h : fn.results = #[.cell p 50, .tmp u]) (tmps : Array Value) (w : World) (g : Nat) (ep gen k n : Int) (b : ByteArray) (hp : tmps.getD p undef = .pointer (some ⟨g, 0, none⟩)) (hg : RfRow w g ep gen k n b) :
    (results fn tmps).run Try.prog w = .ok (.tuple #[frV ep gen k n b, tmps.getD u undef]) w := by
  rw [results_cell_tmp h, hp]
  show ((loadVar 50 ⟨g, 0, none⟩).run Try.prog w).andThen _ = _
  rw [run_loadVar_row w g _ 50 (frA ep gen k n b) (0, 0) _ hg Try.underlying50 rfl (by kernel_rfl)]; rfl
def rdBody (d : List UInt8) : List UInt8 := (d.drop 18).take (d.length - 50)
set_option maxRecDepth 100000 in
theorem str_mid (x : ByteArray) (i j : Nat) (h : i ≤ j) (hj : j ≤ x.size) : ∀ wx : World, (Instr.slice 9 (.string x) (some (.int .i64 (i : Int))) (some (.int .i64 (j : Int))) none).run Try.prog wx = .ok (.string (strB ((x.data.toList.drop i).take (j - i)))) wx := fun wx => by
  rw [run_slice_string_if _ _ _ _ _ _ _ rfl, if_pos (by omega), if_pos (by omega), ext_both]; rfl
theorem seal_parts (ep gen k n : Nat) (body : List UInt8) (h1 : ep < 4294967296) (h2 : gen < 4294967296) (h3 : k < 256) (h4 : n < 256) :
    atF (sealF (textF ep gen k n body)) 4 = ep ∧ atF (sealF (textF ep gen k n body)) 8 = gen ∧ byF (sealF (textF ep gen k n body)) 12 = k ∧ byF (sealF (textF ep gen k n body)) 13 = n ∧ rdBody (sealF (textF ep gen k n body)) = body := by
  have b4 : atF (sealF (textF ep gen k n body)) 4 = (UInt8.ofNat (ep / 16777216)).toNat * 16777216 + (UInt8.ofNat (ep / 65536)).toNat * 65536 + (UInt8.ofNat (ep / 256)).toNat * 256 + (UInt8.ofNat ep).toNat := rfl
  have b8 : atF (sealF (textF ep gen k n body)) 8 = (UInt8.ofNat (gen / 16777216)).toNat * 16777216 + (UInt8.ofNat (gen / 65536)).toNat * 65536 + (UInt8.ofNat (gen / 256)).toNat * 256 + (UInt8.ofNat gen).toNat := rfl
  have b12 : byF (sealF (textF ep gen k n body)) 12 = (UInt8.ofNat k).toNat := rfl
  have b13 : byF (sealF (textF ep gen k n body)) 13 = (UInt8.ofNat n).toNat := rfl
  rw [b4, b8, b12, b13]
  simp only [UInt8.toNat_ofNat']
  refine ⟨by omega, by omega, by omega, by omega, ?_⟩
  unfold rdBody
  rw [sealF_length, textF_length]
  have e : sealF (textF ep gen k n body) = headF ep gen k n body.length ++ (body ++ SH.sumB (textF ep gen k n body)) := by unfold sealF textF; rw [List.append_assoc]
  have hl : (headF ep gen k n body.length).length = 18 := rfl
  rw [e, ← hl, List.drop_left, hl, show 18 + body.length + 32 - 50 = body.length by omega, List.take_left]
theorem ref_read {d : List UInt8} (h50 : 50 ≤ d.length) (hbig : d.length ≤ 65536) :
    readF d = if (makeF (atF d 4) (atF d 8) (byF d 12) (byF d 13) (strB (rdBody d))).2 = 0 ∧ (makeF (atF d 4) (atF d 8) (byF d 12) (byF d 13) (strB (rdBody d))).1 = strB d then (frV (atF d 4) (atF d 8) (byF d 12) (byF d 13) (strB (rdBody d)), 0) else (frV 0 0 0 0 ⟨#[]⟩, 4) := by
  cases h : readOk d with
  | true =>
    obtain ⟨ep, gen, k, n, body, hm, hl, rfl⟩ := readOk_is h
    have := may_nat hm
    obtain ⟨e1, e2, e3, e4, e5⟩ := seal_parts ep gen k n body (by omega) (by omega) (by omega) (by omega)
    rw [e1, e2, e3, e4, e5, makeF_yes hm hl, if_pos ⟨rfl, rfl⟩, readF_seal hm hl]
  | false =>
    rw [readF_no h, if_neg]
    rintro ⟨h1, h2⟩
    obtain ⟨hm, hl, he⟩ := makeF_ok h1
    rw [he] at h2
    have e := strB_inj h2
    have := readOk_seal hm (by rw [strB_size] at hl; exact hl)
    simp only [Int.toNat_natCast] at e
    rw [show (strB (rdBody d)).data.toList = rdBody d from rfl] at e
    rw [e, h] at this
    cases this
theorem ref_short {d : List UInt8} (h : d.length < 50 ∨ 65536 < d.length) : readF d = (frV 0 0 0 0 ⟨#[]⟩, 4) := by
  apply readF_no
  cases e : readOk d with
  | false => rfl
  | true =>
    obtain ⟨ep, gen, k, n, body, hm, hl, rfl⟩ := readOk_is e
    rw [sealF_length, textF_length] at h
    omega
def rfr3 (ep gen k n mm : Nat) (d body : ByteArray) (w0 : World) : Nat → Value → World → Prop
  | 18, v, w => ∃ N, v = .pointer (some ⟨N, 0, none⟩) ∧ w0.heap.size ≤ N ∧ RfAny w N
  | i, v, _ => v = ([.string d, .int .i64 (ep : Int), .string d, .int .i64 (gen : Int), .agg #[.int .i64 (ep : Int), .int .i64 (gen : Int)], .string d, .int .u8 (k : Int), .int .i64 (k : Int), .string d, .int .u8 (n : Int), .int .i64 (n : Int), .agg #[.int .i64 (k : Int), .int .i64 (n : Int)], .string d, .string d, .int .i64 (d.size : Int), .int .i64 (mm : Int), .string body, .agg #[.int .i64 (ep : Int), .int .i64 (gen : Int), .int .i64 (k : Int), .int .i64 (n : Int), .string body], undef, undef] : List Value).getD i undef
theorem rfr3_keeps {ep gen k n mm : Nat} {d body : ByteArray} {w0 : World} (i : Nat) (v : Value) (w w' : World) (c : ∀ N, RfAny w N → RfAny w' N) (h : rfr3 ep gen k n mm d body w0 i v w) : rfr3 ep gen k n mm d body w0 i v w' := by
  match i, h with
  | 0, h => exact h
  | 1, h => exact h
  | 2, h => exact h
  | 3, h => exact h
  | 4, h => exact h
  | 5, h => exact h
  | 6, h => exact h
  | 7, h => exact h
  | 8, h => exact h
  | 9, h => exact h
  | 10, h => exact h
  | 11, h => exact h
  | 12, h => exact h
  | 13, h => exact h
  | 14, h => exact h
  | 15, h => exact h
  | 16, h => exact h
  | 17, h => exact h
  | 18, h => exact h.imp fun N h => ⟨h.1, h.2.1, c N h.2.2⟩
  | 19, h => exact h
  | _ + 20, h => exact h
def rfI (w0 : World) (ep gen k n : Nat) (body : ByteArray) : Nat → (Nat → Value) → World → Prop
  | 0, _, w => Keeps w0 w
  | _, vs, w => Keeps w0 w ∧ ∃ N, vs 18 = .pointer (some ⟨N, 0, none⟩) ∧ w0.heap.size ≤ N ∧ RfRow w N ep gen k n body
set_option maxRecDepth 100000 in
set_option maxHeartbeats 4000000 in
theorem rfread_any (d : ByteArray) (w : World) (hd : d.size ≤ 9223372036854775807) : Calls Try.prog 30 #[.string d] w fun e w' => e = .returned (.tuple #[(readF d.data.toList).1, .int .i64 (readF d.data.toList).2]) ∧ Keeps w w' := by
  have HDL : Hid (d.data.toList.length = d.size) := data_size d
  obtain ⟨w1, hw1⟩ : ∃ w1, w1 = w.alloc (.cells (frA 0 0 0 0 ⟨#[]⟩) 50) := ⟨_, rfl⟩
  have HR1 : Hid (RfRow w1 w.heap.size 0 0 0 0 ⟨#[]⟩) := by show _ = _; rw [hw1]; exact heap_alloc_new w _
  have HK1 : Hid (Keeps w w1) := by rw [hw1]; exact kal _ _
  have HN1 : Hid (w1.heap.size = w.heap.size + 1) := by show _ = _; rw [hw1]; simp
  unfold frA at hw1
  by_cases h50 : d.size < 50
  · have HF : Hid (readF d.data.toList = (frV 0 0 0 0 ⟨#[]⟩, 4)) := ref_short (.inl (by rw [HDL.out]; exact h50))
    have g1 : (d.size : Int) < 50 := by omega
    have g2 : decide ((d.size : Int) < 50) = true := decide_eq_true g1
    clear h50
    go_enter Try.func30, Try.ntmps30
    go_wp2_with fail
    rw [← hw1]
    clear hw1
    exact bodyPost_ret (rf_results rfl _ _ w.heap.size 0 0 0 0 ⟨#[]⟩ rfl HR1.out) rfl ⟨by rw [HF.out]; rfl, HK1.out⟩
  by_cases hbig : 65536 < d.size
  · have HF : Hid (readF d.data.toList = (frV 0 0 0 0 ⟨#[]⟩, 4)) := ref_short (.inr (by rw [HDL.out]; exact hbig))
    have g1 : ¬ (d.size : Int) < 50 := by omega
    have g2 : decide ((d.size : Int) < 50) = false := decide_eq_false g1
    have g3 : (65536 : Int) < (d.size : Int) := by omega
    have g4 : decide ((65536 : Int) < (d.size : Int)) = true := decide_eq_true g3
    clear h50 hbig
    go_enter Try.func30, Try.ntmps30
    go_wp2_with fail
    rw [← hw1]
    clear hw1
    exact bodyPost_ret (rf_results rfl _ _ w.heap.size 0 0 0 0 ⟨#[]⟩ rfl HR1.out) rfl ⟨by rw [HF.out]; rfl, HK1.out⟩
  have HRF := Lib.hid (ref_read (d := d.data.toList) (by rw [HDL.out]; omega) (by rw [HDL.out]; omega))
  have HA4 := Lib.hid (fun wx => rfat_four d wx (by omega))
  have HA8 := Lib.hid (fun wx => rfat_eight d wx (by omega))
  have R12 : Hid (∀ wx : World, (Instr.index 9 (.string d) (.int .i64 12)).run Try.prog wx = .ok (.int .u8 (byF d.data.toList 12 : Int)) wx) := run_byF d 12 (by omega)
  have R13 : Hid (∀ wx : World, (Instr.index 9 (.string d) (.int .i64 13)).run Try.prog wx = .ok (.int .u8 (byF d.data.toList 13 : Int)) wx) := run_byF d 13 (by omega)
  have HB : Hid (∀ wx : World, (Instr.slice 9 (.string d) (some (.int .i64 18)) (some (.int .i64 ((d.size - 32 : Nat) : Int))) none).run Try.prog wx = .ok (.string (strB (rdBody d.data.toList))) wx) := fun wx => by
    have := str_mid d 18 (d.size - 32) (by omega) (by omega) wx
    rw [show d.size - 32 - 18 = d.size - 50 by omega, ← HDL.out] at this
    rw [← HDL.out]
    exact this
  have HBZ : Hid ((strB (rdBody d.data.toList)).size ≤ 65536) := by
    show _ ≤ _
    rw [strB_size]
    unfold rdBody
    rw [List.length_take, HDL.out]; omega
  have l12 := byF_lt d.data.toList 12
  have l13 := byF_lt d.data.toList 13
  have HM : Hid ((d.size : Int) - 32 = ((d.size - 32 : Nat) : Int)) := by show _ = _; omega
  have hmb : d.size - 32 ≤ 65536 := by omega
  rw [strB_data] at HRF
  generalize d.size - 32 = mm at *
  generalize atF d.data.toList 4 = ep at *
  generalize atF d.data.toList 8 = gen at *
  generalize byF d.data.toList 12 = k at *
  generalize byF d.data.toList 13 = n at *
  generalize strB (rdBody d.data.toList) = body at *
  have HMK := Lib.hid (fun wx => rfmake_any ep gen k n body wx (by have := HBZ.out; omega))
  generalize hS : (makeF ep gen k n body).1 = S at *
  generalize hE : (makeF ep gen k n body).2 = E at *
  clear hS hE HBZ
  unfold frV at HMK
  have g1 : ¬ (d.size : Int) < 50 := by omega
  have g2 : decide ((d.size : Int) < 50) = false := decide_eq_false g1
  have g3 : ¬ (65536 : Int) < (d.size : Int) := by omega
  have g4 : decide ((65536 : Int) < (d.size : Int)) = false := decide_eq_false g3
  have hds : d.size ≤ 65536 := by omega
  clear h50 hbig hd
  go_enter Try.func30, Try.ntmps30
  go_wp2_with fail
  rw [← hw1]
  clear hw1
  refine wp_region_stageF [16, 17, 18, 19, 20, 21, 22, 23, 24, 25, 26, 27, 28, 29, 30, 31, 32, 33, 4, 10019] [[], [0], [], [2], [1, 3], [], [5], [6], [], [8], [9], [7, 10], [], [], [13], [14], [12, 15], [4, 11, 16], [], [17, 18]] [19] [0, 0, 0, 0, 0, 0, 0, 0, 0, 0, 0, 0, 0, 0, 0, 0, 0, 0, 0, 0] [] [] [19] (rfr3 ep gen k n mm d body w1) (fun w w' => ∀ N, RfAny w N → RfAny w' N) (rfI w1 ep gen k n body) (by kernel_rfl) (by kernel_rfl) (by kernel_rfl) (by kernel_rfl) (by kernel_rfl) (by kernel_rfl) (by kernel_rfl) ?_ ?_ ?_ ?_ ?_ ?_ ?_
  · exact fun i v w w' c h => rfr3_keeps i v w w' c h
  · exact fun _ _ h => h
  · exact fun i s vs w h => by cases h
  · refine ⟨?_, ?_, ?_, ?_, ?_, ?_, ?_, ?_, ?_, ?_, ?_, ?_, ?_, ?_, ?_, ?_, ?_, ?_, ?_, ?_, trivial⟩
    · exact fun g b h => by (cases h)
    · exact fun g b h => by (cases h)
    · exact fun g b h => by (cases h)
    · exact fun g b h => by (cases h)
    · exact fun g b h => by (cases h)
    · exact fun g b h => by (cases h)
    · exact fun g b h => by (cases h)
    · exact fun g b h => by (cases h)
    · exact fun g b h => by (cases h)
    · exact fun g b h => by (cases h)
    · exact fun g b h => by (cases h)
    · exact fun g b h => by (cases h)
    · exact fun g b h => by (cases h)
    · exact fun g b h => by (cases h)
    · exact fun g b h => by (cases h)
    · exact fun g b h => by (cases h)
    · exact fun g b h => by (cases h)
    · exact fun g b h => by (cases h)
    · exact fun g b h => by (cases h)
    · exact fun g b h => by (cases h)
  · exact fun _ n => keeps_refl w1
  · refine ⟨?_, ?_, ?_, ?_, ?_, ?_, ?_, ?_, ?_, ?_, ?_, ?_, ?_, ?_, ?_, ?_, ?_, ?_, ?_, ?_, trivial⟩
    · intro _ s hs a w2 vs hI ho hn hu K hK
      obtain rfl : s = 0 := hs rfl
      clear hs
      have e0 : a.tmps[0]? = some (.string d) := ho 0 rfl
      clear hn ho hu
      have hI : rfI w1 ep gen k n body 0 vs w2 := hI
      go_simp
      exact hK _ _ (fun _ h => h) hI rfl
    · intro _ s hs a w2 vs hI ho hn hu K hK
      obtain rfl : s = 0 := hs rfl
      clear hs
      obtain ⟨e16, g16⟩ : a.tmps[16]? = some (vs 0) ∧ vs 0 = .string d := ⟨(hn 0 (by decide)).1 (by decide), (hn 0 (by decide)).2⟩
      rw [g16] at e16
      clear g16
      clear hn ho hu
      have hI : rfI w1 ep gen k n body 0 vs w2 := hI
      go_simp
      refine Calls.mono (HA4.out _) ?_
      rintro e w' ⟨rfl, hk2⟩
      go_simp
      exact hK _ _ (fun _ h => h.keeps hk2) (Keeps.trans hI hk2) rfl
    · intro _ s hs a w2 vs hI ho hn hu K hK
      obtain rfl : s = 0 := hs rfl
      clear hs
      have e0 : a.tmps[0]? = some (.string d) := ho 0 rfl
      clear hn ho hu
      have hI : rfI w1 ep gen k n body 0 vs w2 := hI
      go_simp
      exact hK _ _ (fun _ h => h) hI rfl
    · intro _ s hs a w2 vs hI ho hn hu K hK
      obtain rfl : s = 0 := hs rfl
      clear hs
      obtain ⟨e18, g18⟩ : a.tmps[18]? = some (vs 2) ∧ vs 2 = .string d := ⟨(hn 2 (by decide)).1 (by decide), (hn 2 (by decide)).2⟩
      rw [g18] at e18
      clear g18
      clear hn ho hu
      have hI : rfI w1 ep gen k n body 0 vs w2 := hI
      go_simp
      refine Calls.mono (HA8.out _) ?_
      rintro e w' ⟨rfl, hk2⟩
      go_simp
      exact hK _ _ (fun _ h => h.keeps hk2) (Keeps.trans hI hk2) rfl
    · intro _ s hs a w2 vs hI ho hn hu K hK
      obtain rfl : s = 0 := hs rfl
      clear hs
      obtain ⟨e17, g17⟩ : a.tmps[17]? = some (vs 1) ∧ vs 1 = .int .i64 (ep : Int) := ⟨(hn 1 (by decide)).1 (by decide), (hn 1 (by decide)).2⟩
      rw [g17] at e17
      clear g17
      obtain ⟨e19, g19⟩ : a.tmps[19]? = some (vs 3) ∧ vs 3 = .int .i64 (gen : Int) := ⟨(hn 3 (by decide)).1 (by decide), (hn 3 (by decide)).2⟩
      rw [g19] at e19
      clear g19
      clear hn ho hu
      have hI : rfI w1 ep gen k n body 0 vs w2 := hI
      go_simp
      exact hK _ _ (fun _ h => h) hI rfl
    · intro _ s hs a w2 vs hI ho hn hu K hK
      obtain rfl : s = 0 := hs rfl
      clear hs
      have e0 : a.tmps[0]? = some (.string d) := ho 0 rfl
      clear hn ho hu
      have hI : rfI w1 ep gen k n body 0 vs w2 := hI
      go_simp
      exact hK _ _ (fun _ h => h) hI rfl
    · intro _ s hs a w2 vs hI ho hn hu K hK
      obtain rfl : s = 0 := hs rfl
      clear hs
      obtain ⟨e21, g21⟩ : a.tmps[21]? = some (vs 5) ∧ vs 5 = .string d := ⟨(hn 5 (by decide)).1 (by decide), (hn 5 (by decide)).2⟩
      rw [g21] at e21
      clear g21
      clear hn ho hu
      have hI : rfI w1 ep gen k n body 0 vs w2 := hI
      have c := R12.out
      go_simp
      exact hK _ _ (fun _ h => h) hI rfl
    · intro _ s hs a w2 vs hI ho hn hu K hK
      obtain rfl : s = 0 := hs rfl
      clear hs
      obtain ⟨e22, g22⟩ : a.tmps[22]? = some (vs 6) ∧ vs 6 = .int .u8 (k : Int) := ⟨(hn 6 (by decide)).1 (by decide), (hn 6 (by decide)).2⟩
      rw [g22] at e22
      clear g22
      clear hn ho hu
      have hI : rfI w1 ep gen k n body 0 vs w2 := hI
      have wk : IntKind.i64.wrap (k : Int) = (k : Int) := IntWalk.i64_in _ (by omega)
      go_simp
      first | exact hK _ _ (fun _ h => h) hI rfl | (rw [wk]; exact hK _ _ (fun _ h => h) hI rfl)
    · intro _ s hs a w2 vs hI ho hn hu K hK
      obtain rfl : s = 0 := hs rfl
      clear hs
      have e0 : a.tmps[0]? = some (.string d) := ho 0 rfl
      clear hn ho hu
      have hI : rfI w1 ep gen k n body 0 vs w2 := hI
      go_simp
      exact hK _ _ (fun _ h => h) hI rfl
    · intro _ s hs a w2 vs hI ho hn hu K hK
      obtain rfl : s = 0 := hs rfl
      clear hs
      obtain ⟨e24, g24⟩ : a.tmps[24]? = some (vs 8) ∧ vs 8 = .string d := ⟨(hn 8 (by decide)).1 (by decide), (hn 8 (by decide)).2⟩
      rw [g24] at e24
      clear g24
      clear hn ho hu
      have hI : rfI w1 ep gen k n body 0 vs w2 := hI
      have c := R13.out
      go_simp
      exact hK _ _ (fun _ h => h) hI rfl
    · intro _ s hs a w2 vs hI ho hn hu K hK
      obtain rfl : s = 0 := hs rfl
      clear hs
      obtain ⟨e25, g25⟩ : a.tmps[25]? = some (vs 9) ∧ vs 9 = .int .u8 (n : Int) := ⟨(hn 9 (by decide)).1 (by decide), (hn 9 (by decide)).2⟩
      rw [g25] at e25
      clear g25
      clear hn ho hu
      have hI : rfI w1 ep gen k n body 0 vs w2 := hI
      have wk : IntKind.i64.wrap (n : Int) = (n : Int) := IntWalk.i64_in _ (by omega)
      go_simp
      first | exact hK _ _ (fun _ h => h) hI rfl | (rw [wk]; exact hK _ _ (fun _ h => h) hI rfl)
    · intro _ s hs a w2 vs hI ho hn hu K hK
      obtain rfl : s = 0 := hs rfl
      clear hs
      obtain ⟨e23, g23⟩ : a.tmps[23]? = some (vs 7) ∧ vs 7 = .int .i64 (k : Int) := ⟨(hn 7 (by decide)).1 (by decide), (hn 7 (by decide)).2⟩
      rw [g23] at e23
      clear g23
      obtain ⟨e26, g26⟩ : a.tmps[26]? = some (vs 10) ∧ vs 10 = .int .i64 (n : Int) := ⟨(hn 10 (by decide)).1 (by decide), (hn 10 (by decide)).2⟩
      rw [g26] at e26
      clear g26
      clear hn ho hu
      have hI : rfI w1 ep gen k n body 0 vs w2 := hI
      go_simp
      exact hK _ _ (fun _ h => h) hI rfl
    · intro _ s hs a w2 vs hI ho hn hu K hK
      obtain rfl : s = 0 := hs rfl
      clear hs
      have e0 : a.tmps[0]? = some (.string d) := ho 0 rfl
      clear hn ho hu
      have hI : rfI w1 ep gen k n body 0 vs w2 := hI
      go_simp
      exact hK _ _ (fun _ h => h) hI rfl
    · intro _ s hs a w2 vs hI ho hn hu K hK
      obtain rfl : s = 0 := hs rfl
      clear hs
      have e0 : a.tmps[0]? = some (.string d) := ho 0 rfl
      clear hn ho hu
      have hI : rfI w1 ep gen k n body 0 vs w2 := hI
      go_simp
      exact hK _ _ (fun _ h => h) hI rfl
    · intro _ s hs a w2 vs hI ho hn hu K hK
      obtain rfl : s = 0 := hs rfl
      clear hs
      obtain ⟨e29, g29⟩ : a.tmps[29]? = some (vs 13) ∧ vs 13 = .string d := ⟨(hn 13 (by decide)).1 (by decide), (hn 13 (by decide)).2⟩
      rw [g29] at e29
      clear g29
      clear hn ho hu
      have hI : rfI w1 ep gen k n body 0 vs w2 := hI
      go_simp
      exact hK _ _ (fun _ h => h) hI rfl
    · intro _ s hs a w2 vs hI ho hn hu K hK
      obtain rfl : s = 0 := hs rfl
      clear hs
      obtain ⟨e30, g30⟩ : a.tmps[30]? = some (vs 14) ∧ vs 14 = .int .i64 (d.size : Int) := ⟨(hn 14 (by decide)).1 (by decide), (hn 14 (by decide)).2⟩
      rw [g30] at e30
      clear g30
      clear hn ho hu
      have hI : rfI w1 ep gen k n body 0 vs w2 := hI
      have wk : IntKind.i64.wrap ((d.size : Int) - 32) = (d.size : Int) - 32 := IntWalk.i64_in _ (by omega)
      go_simp
      first | (rw [HM.out]; exact hK _ _ (fun _ h => h) hI rfl) | (rw [wk, HM.out]; exact hK _ _ (fun _ h => h) hI rfl)
    · intro _ s hs a w2 vs hI ho hn hu K hK
      obtain rfl : s = 0 := hs rfl
      clear hs
      obtain ⟨e28, g28⟩ : a.tmps[28]? = some (vs 12) ∧ vs 12 = .string d := ⟨(hn 12 (by decide)).1 (by decide), (hn 12 (by decide)).2⟩
      rw [g28] at e28
      clear g28
      obtain ⟨e31, g31⟩ : a.tmps[31]? = some (vs 15) ∧ vs 15 = .int .i64 (mm : Int) := ⟨(hn 15 (by decide)).1 (by decide), (hn 15 (by decide)).2⟩
      rw [g31] at e31
      clear g31
      clear hn ho hu
      have hI : rfI w1 ep gen k n body 0 vs w2 := hI
      have c := HB.out
      go_simp
      exact hK _ _ (fun _ h => h) hI rfl
    · intro _ s hs a w2 vs hI ho hn hu K hK
      obtain rfl : s = 0 := hs rfl
      clear hs
      obtain ⟨e20, g20⟩ : a.tmps[20]? = some (vs 4) ∧ vs 4 = .agg #[.int .i64 (ep : Int), .int .i64 (gen : Int)] := ⟨(hn 4 (by decide)).1 (by decide), (hn 4 (by decide)).2⟩
      rw [g20] at e20
      clear g20
      obtain ⟨e27, g27⟩ : a.tmps[27]? = some (vs 11) ∧ vs 11 = .agg #[.int .i64 (k : Int), .int .i64 (n : Int)] := ⟨(hn 11 (by decide)).1 (by decide), (hn 11 (by decide)).2⟩
      rw [g27] at e27
      clear g27
      obtain ⟨e32, g32⟩ : a.tmps[32]? = some (vs 16) ∧ vs 16 = .string body := ⟨(hn 16 (by decide)).1 (by decide), (hn 16 (by decide)).2⟩
      rw [g32] at e32
      clear g32
      clear hn ho hu
      have hI : rfI w1 ep gen k n body 0 vs w2 := hI
      go_simp
      exact hK _ _ (fun _ h => h) hI rfl
    · intro _ s hs a w2 vs hI ho hn hu K hK
      obtain rfl : s = 0 := hs rfl
      clear hs
      clear hn ho hu
      have hI : rfI w1 ep gen k n body 0 vs w2 := hI
      go_simp
      exact hK _ _ (fun _ h => h.keeps (kal _ _)) (Keeps.trans hI (kal _ _)) ⟨_, rfl, (show w1.heap.size ≤ w2.heap.size from hI.size), _, _, _, _, _, heap_alloc_new w2 _⟩
    · intro _ s hs a w2 vs hI ho hn hu K hK
      obtain rfl : s = 0 := hs rfl
      clear hs
      obtain ⟨e4, g4⟩ : a.tmps[4]? = some (vs 18) ∧ ∃ N, (vs 18) = .pointer (some ⟨N, 0, none⟩) ∧ w1.heap.size ≤ N ∧ RfAny w2 N := ⟨(hn 18 (by decide)).1 (by decide), (hn 18 (by decide)).2⟩
      obtain ⟨e33, g33⟩ : a.tmps[33]? = some (vs 17) ∧ vs 17 = .agg #[.int .i64 (ep : Int), .int .i64 (gen : Int), .int .i64 (k : Int), .int .i64 (n : Int), .string body] := ⟨(hn 17 (by decide)).1 (by decide), (hn 17 (by decide)).2⟩
      rw [g33] at e33
      clear g33
      clear hn ho hu
      have hI : rfI w1 ep gen k n body 0 vs w2 := hI
      obtain ⟨N, e9, h1, h2⟩ := g4
      rw [e9] at e4
      obtain ⟨_, _, _, _, _, hr⟩ := h2
      have hy : a.eval (.tmp 33) = .agg (frA ep gen k n body) := by show a.tmps.getD 33 _ = _; rw [Array.getD_eq_getD_getElem?, e33]; rfl
      have hx : a.eval (.tmp 4) = .pointer (some ⟨N, 0, none⟩) := by show a.tmps.getD 4 _ = _; rw [Array.getD_eq_getD_getElem?, e4]; rfl
      refine wp_store_row 50 (.tmp 4) (.tmp 33) rfl N (frA ep gen k n body) hx hy 50 _ hr (by kernel_rfl) rfl (frA_one ep gen k n body) ?_
      exact hK undef _ (fun _ h => h.set ⟨_, _, _, _, _, hr⟩) ⟨(Chg.setRow (T := fun b => w1.heap.size ≤ b) (Kept.any hI) (fun _ => h1) _).keeps (fun b h3 h4 => by omega), N, e9, h1, RfRow.set hr _ _ _ _ _⟩ rfl
  intro vs ws hI hG
  obtain ⟨hk, N, eN, hN, hrow⟩ : Keeps w1 ws ∧ ∃ N, vs 18 = .pointer (some ⟨N, 0, none⟩) ∧ w1.heap.size ≤ N ∧ RfRow ws N ep gen k n body := hI
  clear hG
  simp only [setAll, Nat.zero_add, Nat.reduceAdd, List.setIfInBounds_toArray, List.set_cons_zero, List.set_cons_succ, List.set_nil, eN]
  clear eN
  generalize vs 0 = y0 at *
  generalize vs 1 = y1 at *
  generalize vs 2 = y2 at *
  generalize vs 3 = y3 at *
  generalize vs 4 = y4 at *
  generalize vs 5 = y5 at *
  generalize vs 6 = y6 at *
  generalize vs 7 = y7 at *
  generalize vs 8 = y8 at *
  generalize vs 9 = y9 at *
  generalize vs 10 = y10 at *
  generalize vs 11 = y11 at *
  generalize vs 12 = y12 at *
  generalize vs 13 = y13 at *
  generalize vs 14 = y14 at *
  generalize vs 15 = y15 at *
  generalize vs 16 = y16 at *
  generalize vs 17 = y17 at *
  generalize vs 18 = y18 at *
  generalize vs 19 = y19 at *
  have HN4 : Hid (RfRow ws N ep gen k n body) := hrow
  have HK2 : Hid (Keeps w ws) := HK1.out.trans hk
  have HR2 : Hid (RfRow ws w.heap.size 0 0 0 0 ⟨#[]⟩) := HR1.out.keeps hk
  have hNg : N ≠ w.heap.size := by have := HN1.out; omega
  clear hk hrow HA4 HA8 R12 R13 HB HM HK1 HR1
  have d0 : ws.cell? ⟨N, 0, none⟩ = some (.int .i64 (ep : Int)) := cell_of_row ws N 0 _ _ _ HN4.out
  have d1 : ws.cell? ⟨N, 1, none⟩ = some (.int .i64 (gen : Int)) := cell_of_row ws N 1 _ _ _ HN4.out
  have d2 : ws.cell? ⟨N, 2, none⟩ = some (.int .i64 (k : Int)) := cell_of_row ws N 2 _ _ _ HN4.out
  have d3 : ws.cell? ⟨N, 3, none⟩ = some (.int .i64 (n : Int)) := cell_of_row ws N 3 _ _ _ HN4.out
  have d4 : ws.cell? ⟨N, 4, none⟩ = some (.string body) := cell_of_row ws N 4 _ _ _ HN4.out
  go_wp2_with fail
  refine Calls.mono (HMK.out _) ?_
  rintro e w5 ⟨rfl, hk⟩
  have HK3 : Hid (Keeps w w5) := HK2.out.trans hk
  have HR3 : Hid (RfRow w5 w.heap.size 0 0 0 0 ⟨#[]⟩) := HR2.out.keeps hk
  have HN5 : Hid (RfRow w5 N ep gen k n body) := HN4.out.keeps hk
  clear hk d0 d1 d2 d3 d4 HK2 HR2 HN4 HMK
  by_cases hE : E = 0
  case neg =>
    have HF : Hid (readF d.data.toList = (frV 0 0 0 0 ⟨#[]⟩, 4)) := by show _ = _; rw [HRF.out, if_neg (fun x => hE x.1)]
    have g5 : (E != 0) = true := by rw [bne_iff_ne]; exact hE
    have g6 : decide (E = 0) = false := decide_eq_false hE
    clear HRF hE
    go_wp2_with (refine wpList_store_row rfl 50 (.tmp 2) (.tmp 46) rfl w.heap.size (frA 0 0 0 0 ⟨#[]⟩) rfl rfl 50 _ HR3.out (by kernel_rfl) rfl (frA_one 0 0 0 0 ⟨#[]⟩) ?_)
    go_wp2_with fail
    exact bodyPost_ret (rf_results rfl _ _ w.heap.size 0 0 0 0 ⟨#[]⟩ rfl (RfRow.set (w := w5) HR3.out 0 0 0 0 ⟨#[]⟩)) rfl ⟨by rw [HF.out]; rfl, (Chg.setRow (T := fun b => w.heap.size ≤ b) (w := w5) (Kept.any HK3.out) (fun h => absurd h (by omega)) _).keeps fun b h1 h2 => by omega⟩
  subst hE
  by_cases hS : S = d
  case neg =>
    have HF : Hid (readF d.data.toList = (frV 0 0 0 0 ⟨#[]⟩, 4)) := by show _ = _; rw [HRF.out, if_neg (fun x => hS x.2)]
    have g5 : (S.toList == d.toList) = false := by rw [txt_eq]; exact decide_eq_false hS
    clear HRF hS
    go_wp2_with (refine wpList_store_row rfl 50 (.tmp 2) (.tmp 46) rfl w.heap.size (frA 0 0 0 0 ⟨#[]⟩) rfl rfl 50 _ HR3.out (by kernel_rfl) rfl (frA_one 0 0 0 0 ⟨#[]⟩) ?_)
    go_wp2_with fail
    exact bodyPost_ret (rf_results rfl _ _ w.heap.size 0 0 0 0 ⟨#[]⟩ rfl (RfRow.set (w := w5) HR3.out 0 0 0 0 ⟨#[]⟩)) rfl ⟨by rw [HF.out]; rfl, (Chg.setRow (T := fun b => w.heap.size ≤ b) (w := w5) (Kept.any HK3.out) (fun h => absurd h (by omega)) _).keeps fun b h1 h2 => by omega⟩
  subst hS
  have HF : Hid (readF S.data.toList = (frV ep gen k n body, 0)) := by show _ = _; rw [HRF.out, if_pos ⟨rfl, rfl⟩]
  have g5 : (S.toList == S.toList) = true := by rw [txt_eq]; exact decide_eq_true rfl
  clear HRF
  have d0 : w5.cell? ⟨N, 0, none⟩ = some (.int .i64 (ep : Int)) := cell_of_row w5 N 0 _ _ _ HN5.out
  have d1 : w5.cell? ⟨N, 1, none⟩ = some (.int .i64 (gen : Int)) := cell_of_row w5 N 1 _ _ _ HN5.out
  have d2 : w5.cell? ⟨N, 2, none⟩ = some (.int .i64 (k : Int)) := cell_of_row w5 N 2 _ _ _ HN5.out
  have d3 : w5.cell? ⟨N, 3, none⟩ = some (.int .i64 (n : Int)) := cell_of_row w5 N 3 _ _ _ HN5.out
  have d4 : w5.cell? ⟨N, 4, none⟩ = some (.string body) := cell_of_row w5 N 4 _ _ _ HN5.out
  go_wp2_with (refine wpList_store_row rfl 50 (.tmp 2) (.tmp 47) rfl w.heap.size (frA ep gen k n body) rfl rfl 50 _ HR3.out (by kernel_rfl) rfl (frA_one ep gen k n body) ?_)
  go_wp2_with fail
  exact bodyPost_ret (rf_results rfl _ _ w.heap.size ep gen k n body rfl (RfRow.set (w := w5) HR3.out ep gen k n body)) rfl ⟨by rw [HF.out]; rfl, (Chg.setRow (T := fun b => w.heap.size ≤ b) (w := w5) (Kept.any HK3.out) (fun h => absurd h (by omega)) _).keeps fun b h1 h2 => by omega⟩
end Go.Proofs.Ytcapalofocmmoaa
